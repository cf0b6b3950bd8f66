/-
  routingref32.Less.
-/
import Derived.Test.YtogdconliofblaaGreatSea
import Derived.Test.YtogdconliofblaaGreatCmr
import Derived.IntWalk
namespace Go.Proofs.YtogdconliofblaaGreat
open Go.RowKit

set_option maxHeartbeats 1000000 in
theorem less_calls (p q : Ls.Pfx) (w : World) : Calls Tryz.prog 71 #[.agg #[.int .u32 p.addr, .int .i64 p.len], .agg #[.int .u32 q.addr, .int .i64 q.len]] w fun e w' => e = .returned (.bool (Ls.pfxLt p q)) ∧ Gr w w' := by
  obtain ⟨pa, pl⟩ := p
  obtain ⟨qa, ql⟩ := q
  simp only
  by_cases h1 : pa < qa
  · rw [show Ls.pfxLt ⟨pa, pl⟩ ⟨qa, ql⟩ = true from by simp [Ls.pfxLt, Ls.lexB, h1]]
    go_enter Tryz.func71, Tryz.ntmps71
    go_wp2_with fail
    go_ret
    exact ⟨rfl, ((Gr.refl _).alloc _).alloc _⟩
  · have d1 : decide (pa < qa) = false := by simpa using h1
    by_cases h2 : pa = qa
    · subst h2
      by_cases h3 : pl < ql
      · rw [show Ls.pfxLt ⟨pa, pl⟩ ⟨pa, ql⟩ = true from by simp [Ls.pfxLt, Ls.lexB, h3]]
        go_enter Tryz.func71, Tryz.ntmps71
        go_wp2_with fail
        go_ret
        exact ⟨rfl, ((Gr.refl _).alloc _).alloc _⟩
      · have d3 : decide (pl < ql) = false := by simpa using h3
        rw [show Ls.pfxLt ⟨pa, pl⟩ ⟨pa, ql⟩ = false from by simp [Ls.pfxLt, Ls.lexB, h3]]
        go_enter Tryz.func71, Tryz.ntmps71
        go_wp2_with fail
        go_ret
        exact ⟨rfl, ((Gr.refl _).alloc _).alloc _⟩
    · rw [show Ls.pfxLt ⟨pa, pl⟩ ⟨qa, ql⟩ = false from by simp [Ls.pfxLt, Ls.lexB, h1, h2]]
      have d2 : (pa == qa) = false := by simpa using h2
      clear h2
      go_enter Tryz.func71, Tryz.ntmps71
      go_wp2_with fail
      go_ret
      exact ⟨rfl, ((Gr.refl _).alloc _).alloc _⟩

end Go.Proofs.YtogdconliofblaaGreat
