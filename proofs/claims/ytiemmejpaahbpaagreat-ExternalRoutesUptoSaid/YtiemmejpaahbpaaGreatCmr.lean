/-
  prefix.Compare, the order of routes, external.Compare.
-/
import Derived.Test.YtiemmejpaahbpaaGreatBit
namespace Go.Proofs.YtiemmejpaahbpaaGreat
open Go.RowKit

/-- a route as it lies in memory -/
structure Rt where
  pfx : Ls.Pfx
  proto : Int
  area : Int
  cost : Int
  second : Bool
  cost2 : Int
  tag : Int
  ha : Option Addr
  hn : Nat
  hc : Nat
deriving Inhabited

def Rt.hv (r : Rt) : Value := .slice r.ha r.hn r.hc
def rtE (r : Rt) : List Value := [.int .u32 r.pfx.addr, .int .i64 r.pfx.len, .int .i64 r.proto, .int .u32 r.area, .int .i64 r.cost, .bool r.second, .int .i64 r.cost2, .int .i64 r.tag, .slice r.ha r.hn r.hc]

def pfxCmp (p q : Ls.Pfx) : Int := if Ls.pfxLt p q then -1 else if p = q then 0 else 1

set_option maxHeartbeats 1000000 in
theorem pcompare_calls (p q : Ls.Pfx) (w : World) : Calls Tryz.prog 27 #[.agg #[.int .u32 p.addr, .int .i64 p.len], .agg #[.int .u32 q.addr, .int .i64 q.len]] w fun e w' => e = .returned (.int .i64 (pfxCmp p q)) ∧ Gr w w' := by
  have E := eqPfx p q
  obtain ⟨pa, pl⟩ := p
  obtain ⟨qa, ql⟩ := q
  simp only at *
  by_cases h1 : pa < qa
  · rw [show pfxCmp ⟨pa, pl⟩ ⟨qa, ql⟩ = -1 from by simp [pfxCmp, Ls.pfxLt, Ls.lexB, h1]]
    have d1 : decide (pa < qa) = true := by simpa using h1
    go_enter Tryz.func27, Tryz.ntmps27
    go_wp2_with fail
    go_ret
    exact ⟨rfl, ((Gr.refl _).alloc _).alloc _⟩
  · have d1 : decide (pa < qa) = false := by simpa using h1
    by_cases h2 : pa = qa
    · subst h2
      by_cases h3 : pl < ql
      · rw [show pfxCmp ⟨pa, pl⟩ ⟨pa, ql⟩ = -1 from by simp [pfxCmp, Ls.pfxLt, Ls.lexB, h3]]
        have d3 : decide (pl < ql) = true := by simpa using h3
        go_enter Tryz.func27, Tryz.ntmps27
        go_wp2_with fail
        go_ret
        exact ⟨rfl, ((Gr.refl _).alloc _).alloc _⟩
      · have d3 : decide (pl < ql) = false := by simpa using h3
        by_cases h4 : pl = ql
        · subst h4
          rw [show pfxCmp ⟨pa, pl⟩ ⟨pa, pl⟩ = 0 from by simp [pfxCmp, Ls.pfxLt, Ls.lexB]]
          rw [show decide ((⟨pa, pl⟩ : Ls.Pfx) = ⟨pa, pl⟩) = true from by simp] at E
          go_enter Tryz.func27, Tryz.ntmps27
          go_wp2_with fail
          go_ret
          exact ⟨rfl, ((Gr.refl _).alloc _).alloc _⟩
        · rw [show pfxCmp ⟨pa, pl⟩ ⟨pa, ql⟩ = 1 from by simp [pfxCmp, Ls.pfxLt, Ls.lexB, h3, h4]]
          rw [show decide ((⟨pa, pl⟩ : Ls.Pfx) = ⟨pa, ql⟩) = false from by simp [h4]] at E
          clear h4
          go_enter Tryz.func27, Tryz.ntmps27
          go_wp2_with fail
          go_ret
          exact ⟨rfl, ((Gr.refl _).alloc _).alloc _⟩
    · rw [show pfxCmp ⟨pa, pl⟩ ⟨qa, ql⟩ = 1 from by simp [pfxCmp, Ls.pfxLt, Ls.lexB, h1, h2]]
      rw [show decide ((⟨pa, pl⟩ : Ls.Pfx) = ⟨qa, ql⟩) = false from by simp [h2]] at E
      have d2 : (pa == qa) = false := by simpa using h2
      clear h2
      go_enter Tryz.func27, Tryz.ntmps27
      go_wp2_with fail
      go_ret
      exact ⟨rfl, ((Gr.refl _).alloc _).alloc _⟩

set_option maxHeartbeats 1000000 in
theorem rorder_calls (a b : Rt) (w : World) : Calls Tryz.prog 26 #[.agg (rtE a).toArray, .agg (rtE b).toArray] w fun e w' => e = .returned (.int .i64 (pfxCmp a.pfx b.pfx)) ∧ Gr w w' := by
  unfold rtE
  have P := Lib.hid (fun W => pcompare_calls a.pfx b.pfx W)
  generalize pfxCmp a.pfx b.pfx = r at P ⊢
  go_enter Tryz.func26, Tryz.ntmps26
  go_wp2_with fail
  refine (P.out _).mono ?_
  rintro e w1 ⟨rfl, G⟩
  go_wp2_with fail
  go_ret
  exact ⟨rfl, (((Gr.refl _).alloc _).alloc _).trans G⟩

/-- which route is preferred -/
def rtCmp (a b : Rt) : Int := if a.second = b.second then (if a.second = true ∧ ¬ a.cost2 = b.cost2 then cmpI a.cost2 b.cost2 else cmpI a.cost b.cost) else if b.second then -1 else 1

set_option maxHeartbeats 1000000 in
theorem rcompare_ne (a b : Rt) (w : World) (h : a.second = !b.second) : Calls Tryz.prog 12 #[.agg (rtE a).toArray, .agg (rtE b).toArray] w fun e w' => e = .returned (.int .i64 (if b.second then -1 else 1)) ∧ Gr w w' := by
  unfold rtE
  rw [h]
  clear h
  generalize b.second = s
  cases s with
  | true =>
    go_enter Tryz.func12, Tryz.ntmps12
    go_wp2_with fail
    go_ret
    exact ⟨rfl, ((Gr.refl _).alloc _).alloc _⟩
  | false =>
    go_enter Tryz.func12, Tryz.ntmps12
    go_wp2_with fail
    go_ret
    exact ⟨rfl, ((Gr.refl _).alloc _).alloc _⟩

set_option maxHeartbeats 1000000 in
theorem rcompare_cost (a b : Rt) (w : World) (h : a.second = b.second) (h2 : b.second = false ∨ a.cost2 = b.cost2) : Calls Tryz.prog 12 #[.agg (rtE a).toArray, .agg (rtE b).toArray] w fun e w' => e = .returned (.int .i64 (cmpI a.cost b.cost)) ∧ Gr w w' := by
  unfold rtE
  have C := Lib.hid (fun W => cmp_int a.cost b.cost W)
  generalize cmpI a.cost b.cost = r at C ⊢
  rw [h]
  clear h
  generalize hs : b.second = s at h2
  clear hs
  cases s with
  | false =>
    go_enter Tryz.func12, Tryz.ntmps12
    go_wp2_with fail
    refine (C.out _).mono ?_
    rintro e w1 ⟨rfl, rfl⟩
    go_wp2_with fail
    go_ret
    exact ⟨rfl, ((Gr.refl _).alloc _).alloc _⟩
  | true =>
    have h2 : a.cost2 = b.cost2 := by simpa using h2
    rw [h2]
    generalize b.cost2 = c2
    clear h2
    go_enter Tryz.func12, Tryz.ntmps12
    go_wp2_with fail
    refine (C.out _).mono ?_
    rintro e w1 ⟨rfl, rfl⟩
    go_wp2_with fail
    go_ret
    exact ⟨rfl, ((Gr.refl _).alloc _).alloc _⟩

set_option maxHeartbeats 1000000 in
theorem rcompare_cost2 (a b : Rt) (w : World) (h : a.second = true) (h' : b.second = true) (h2 : ¬ a.cost2 = b.cost2) : Calls Tryz.prog 12 #[.agg (rtE a).toArray, .agg (rtE b).toArray] w fun e w' => e = .returned (.int .i64 (cmpI a.cost2 b.cost2)) ∧ Gr w w' := by
  unfold rtE
  have C := Lib.hid (fun W => cmp_int a.cost2 b.cost2 W)
  generalize cmpI a.cost2 b.cost2 = r at C ⊢
  rw [h, h']
  have d : (a.cost2 != b.cost2) = true := by simpa using h2
  have d' : (a.cost2 == b.cost2) = false := by simpa using h2
  clear h h' h2
  generalize a.cost2 = x at *
  generalize b.cost2 = y at *
  go_enter Tryz.func12, Tryz.ntmps12
  go_wp2_with fail
  refine (C.out _).mono ?_
  rintro e w1 ⟨rfl, rfl⟩
  go_wp2_with fail
  go_ret
  exact ⟨rfl, ((Gr.refl _).alloc _).alloc _⟩

theorem rcompare_calls (a b : Rt) (w : World) : Calls Tryz.prog 12 #[.agg (rtE a).toArray, .agg (rtE b).toArray] w fun e w' => e = .returned (.int .i64 (rtCmp a b)) ∧ Gr w w' := by
  unfold rtCmp
  by_cases h : a.second = b.second
  · rw [if_pos h]
    by_cases h2 : a.second = true ∧ ¬ a.cost2 = b.cost2
    · rw [if_pos h2]
      exact rcompare_cost2 a b w h2.1 (h ▸ h2.1) h2.2
    · rw [if_neg h2]
      refine rcompare_cost a b w h ?_
      cases hb : b.second with
      | false => exact .inl rfl
      | true => exact .inr (Classical.byContradiction fun c => h2 ⟨h.trans hb, c⟩)
  · rw [if_neg h]
    refine rcompare_ne a b w ?_
    revert h
    cases a.second <;> cases b.second <;> simp

end Go.Proofs.YtiemmejpaahbpaaGreat
