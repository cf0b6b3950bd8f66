/-
  prefix.Compare, inter.orderRoutes.
-/
import Derived.Test.YtogdconliofblaaGreatBit
namespace Go.Proofs.YtogdconliofblaaGreat
open Go.RowKit

/-- a route as it lies in memory -/
structure Rt where
  pfx : Ls.Pfx
  proto : Int
  area : Int
  cost : Int
  second : Bool
  cost2 : Int
  tag : Int
  ha : Option Addr
  hn : Nat
  hc : Nat
deriving Inhabited

def Rt.hv (r : Rt) : Value := .slice r.ha r.hn r.hc
def rtE (r : Rt) : List Value := [.int .u32 r.pfx.addr, .int .i64 r.pfx.len, .int .i64 r.proto, .int .u32 r.area, .int .i64 r.cost, .bool r.second, .int .i64 r.cost2, .int .i64 r.tag, .slice r.ha r.hn r.hc]

def pfxCmp (p q : Ls.Pfx) : Int := if Ls.pfxLt p q then -1 else if p = q then 0 else 1

set_option maxHeartbeats 1000000 in
theorem pcompare_calls (p q : Ls.Pfx) (w : World) : Calls Tryz.prog 88 #[.agg #[.int .u32 p.addr, .int .i64 p.len], .agg #[.int .u32 q.addr, .int .i64 q.len]] w fun e w' => e = .returned (.int .i64 (pfxCmp p q)) ∧ Gr w w' := by
  have E := eqPfx p q
  obtain ⟨pa, pl⟩ := p
  obtain ⟨qa, ql⟩ := q
  simp only at *
  by_cases h1 : pa < qa
  · rw [show pfxCmp ⟨pa, pl⟩ ⟨qa, ql⟩ = -1 from by simp [pfxCmp, Ls.pfxLt, Ls.lexB, h1]]
    have d1 : decide (pa < qa) = true := by simpa using h1
    go_enter Tryz.func88, Tryz.ntmps88
    go_wp2_with fail
    go_ret
    exact ⟨rfl, ((Gr.refl _).alloc _).alloc _⟩
  · have d1 : decide (pa < qa) = false := by simpa using h1
    by_cases h2 : pa = qa
    · subst h2
      by_cases h3 : pl < ql
      · rw [show pfxCmp ⟨pa, pl⟩ ⟨pa, ql⟩ = -1 from by simp [pfxCmp, Ls.pfxLt, Ls.lexB, h3]]
        have d3 : decide (pl < ql) = true := by simpa using h3
        go_enter Tryz.func88, Tryz.ntmps88
        go_wp2_with fail
        go_ret
        exact ⟨rfl, ((Gr.refl _).alloc _).alloc _⟩
      · have d3 : decide (pl < ql) = false := by simpa using h3
        by_cases h4 : pl = ql
        · subst h4
          rw [show pfxCmp ⟨pa, pl⟩ ⟨pa, pl⟩ = 0 from by simp [pfxCmp, Ls.pfxLt, Ls.lexB]]
          rw [show decide ((⟨pa, pl⟩ : Ls.Pfx) = ⟨pa, pl⟩) = true from by simp] at E
          go_enter Tryz.func88, Tryz.ntmps88
          go_wp2_with fail
          go_ret
          exact ⟨rfl, ((Gr.refl _).alloc _).alloc _⟩
        · rw [show pfxCmp ⟨pa, pl⟩ ⟨pa, ql⟩ = 1 from by simp [pfxCmp, Ls.pfxLt, Ls.lexB, h3, h4]]
          rw [show decide ((⟨pa, pl⟩ : Ls.Pfx) = ⟨pa, ql⟩) = false from by simp [h4]] at E
          clear h4
          go_enter Tryz.func88, Tryz.ntmps88
          go_wp2_with fail
          go_ret
          exact ⟨rfl, ((Gr.refl _).alloc _).alloc _⟩
    · rw [show pfxCmp ⟨pa, pl⟩ ⟨qa, ql⟩ = 1 from by simp [pfxCmp, Ls.pfxLt, Ls.lexB, h1, h2]]
      rw [show decide ((⟨pa, pl⟩ : Ls.Pfx) = ⟨qa, ql⟩) = false from by simp [h2]] at E
      have d2 : (pa == qa) = false := by simpa using h2
      clear h2
      go_enter Tryz.func88, Tryz.ntmps88
      go_wp2_with fail
      go_ret
      exact ⟨rfl, ((Gr.refl _).alloc _).alloc _⟩

set_option maxHeartbeats 1000000 in
theorem rorder_calls (a b : Rt) (w : World) : Calls Tryz.prog 51 #[.agg (rtE a).toArray, .agg (rtE b).toArray] w fun e w' => e = .returned (.int .i64 (pfxCmp a.pfx b.pfx)) ∧ Gr w w' := by
  unfold rtE
  have P := Lib.hid (fun W => pcompare_calls a.pfx b.pfx W)
  generalize pfxCmp a.pfx b.pfx = r at P ⊢
  go_enter Tryz.func51, Tryz.ntmps51
  go_wp2_with fail
  refine (P.out _).mono ?_
  rintro e w1 ⟨rfl, G⟩
  go_wp2_with fail
  go_ret
  exact ⟨rfl, (((Gr.refl _).alloc _).alloc _).trans G⟩

end Go.Proofs.YtogdconliofblaaGreat
