/-
  routingref34.Compare; which route is preferred, in plain words.
-/
import Derived.Test.YtiemmejpaahbpaaGreatCmr
namespace Go.Proofs.YtiemmejpaahbpaaGreat
open Go.RowKit

set_option maxHeartbeats 400000 in
theorem numbers_calls (a b : Int) (w : World) : Calls Tryz.prog 62 #[.int .i64 a, .int .i64 b] w fun e w' => e = .returned (.int .i64 (cmpI a b)) ∧ w = w' := by
  by_cases h1 : a < b
  · rw [cmpI_lt h1]
    go_enter Tryz.func62, Tryz.ntmps62
    go_wp2
    go_ret
    exact ⟨rfl, rfl⟩
  · by_cases h2 : b < a
    · rw [cmpI_gt h2]
      go_enter Tryz.func62, Tryz.ntmps62
      go_wp2
      go_ret
      exact ⟨rfl, rfl⟩
    · rw [cmpI_eq (by omega)]
      go_enter Tryz.func62, Tryz.ntmps62
      go_wp2
      go_ret
      exact ⟨rfl, rfl⟩

set_option maxHeartbeats 1000000 in
theorem fcompare_ne (a b : Rt) (w : World) (h : a.second = !b.second) : Calls Tryz.prog 29 #[.agg (rtE a).toArray, .agg (rtE b).toArray] w fun e w' => e = .returned (.int .i64 (if b.second then -1 else 1)) ∧ Gr w w' := by
  unfold rtE
  rw [h]
  clear h
  generalize b.second = s
  cases s with
  | true =>
    go_enter Tryz.func29, Tryz.ntmps29
    go_wp2_with fail
    go_ret
    exact ⟨rfl, ((Gr.refl _).alloc _).alloc _⟩
  | false =>
    go_enter Tryz.func29, Tryz.ntmps29
    go_wp2_with fail
    go_ret
    exact ⟨rfl, ((Gr.refl _).alloc _).alloc _⟩

set_option maxHeartbeats 1000000 in
theorem fcompare_cost (a b : Rt) (w : World) (h : a.second = b.second) (h2 : b.second = false ∨ a.cost2 = b.cost2) : Calls Tryz.prog 29 #[.agg (rtE a).toArray, .agg (rtE b).toArray] w fun e w' => e = .returned (.int .i64 (cmpI a.cost b.cost)) ∧ Gr w w' := by
  unfold rtE
  have C := Lib.hid (fun W => numbers_calls a.cost b.cost W)
  generalize cmpI a.cost b.cost = r at C ⊢
  rw [h]
  clear h
  generalize hs : b.second = s at h2
  clear hs
  cases s with
  | false =>
    go_enter Tryz.func29, Tryz.ntmps29
    go_wp2_with fail
    refine (C.out _).mono ?_
    rintro e w1 ⟨rfl, rfl⟩
    go_wp2_with fail
    go_ret
    exact ⟨rfl, ((Gr.refl _).alloc _).alloc _⟩
  | true =>
    have h2 : a.cost2 = b.cost2 := by simpa using h2
    rw [h2]
    generalize b.cost2 = c2
    clear h2
    go_enter Tryz.func29, Tryz.ntmps29
    go_wp2_with fail
    refine (C.out _).mono ?_
    rintro e w1 ⟨rfl, rfl⟩
    go_wp2_with fail
    go_ret
    exact ⟨rfl, ((Gr.refl _).alloc _).alloc _⟩

set_option maxHeartbeats 1000000 in
theorem fcompare_cost2 (a b : Rt) (w : World) (h : a.second = true) (h' : b.second = true) (h2 : ¬ a.cost2 = b.cost2) : Calls Tryz.prog 29 #[.agg (rtE a).toArray, .agg (rtE b).toArray] w fun e w' => e = .returned (.int .i64 (cmpI a.cost2 b.cost2)) ∧ Gr w w' := by
  unfold rtE
  have C := Lib.hid (fun W => numbers_calls a.cost2 b.cost2 W)
  generalize cmpI a.cost2 b.cost2 = r at C ⊢
  rw [h, h']
  have d : (a.cost2 != b.cost2) = true := by simpa using h2
  have d' : (a.cost2 == b.cost2) = false := by simpa using h2
  clear h h' h2
  generalize a.cost2 = x at *
  generalize b.cost2 = y at *
  go_enter Tryz.func29, Tryz.ntmps29
  go_wp2_with fail
  refine (C.out _).mono ?_
  rintro e w1 ⟨rfl, rfl⟩
  go_wp2_with fail
  go_ret
  exact ⟨rfl, ((Gr.refl _).alloc _).alloc _⟩

theorem fcompare_calls (a b : Rt) (w : World) : Calls Tryz.prog 29 #[.agg (rtE a).toArray, .agg (rtE b).toArray] w fun e w' => e = .returned (.int .i64 (rtCmp a b)) ∧ Gr w w' := by
  unfold rtCmp
  by_cases h : a.second = b.second
  · rw [if_pos h]
    by_cases h2 : a.second = true ∧ ¬ a.cost2 = b.cost2
    · rw [if_pos h2]
      exact fcompare_cost2 a b w h2.1 (h ▸ h2.1) h2.2
    · rw [if_neg h2]
      refine fcompare_cost a b w h ?_
      cases hb : b.second with
      | false => exact .inl rfl
      | true => exact .inr (Classical.byContradiction fun c => h2 ⟨h.trans hb, c⟩)
  · rw [if_neg h]
    refine fcompare_ne a b w ?_
    revert h
    cases a.second <;> cases b.second <;> simp

theorem cmpI_anti (a b : Int) : cmpI b a = - cmpI a b := by unfold cmpI; split <;> split <;> omega
theorem rtCmp_anti (a b : Rt) : rtCmp b a = - rtCmp a b := by
  unfold rtCmp
  rw [cmpI_anti a.cost b.cost, cmpI_anti a.cost2 b.cost2]
  cases a.second <;> cases b.second <;> simp
  by_cases h : a.cost2 = b.cost2
  · simp [h]
  · have h' : ¬ b.cost2 = a.cost2 := fun e => h e.symm
    simp [h, h']
theorem cmpI_bd (a b : Int) : -1 ≤ cmpI a b ∧ cmpI a b ≤ 1 := by unfold cmpI; split <;> (try split) <;> omega
theorem rtCmp_bd (a b : Rt) : -1 ≤ rtCmp a b ∧ rtCmp a b ≤ 1 := by
  unfold rtCmp
  have := cmpI_bd a.cost b.cost
  have := cmpI_bd a.cost2 b.cost2
  split
  · split <;> omega
  · split <;> omega
theorem cmpI_le (a b : Int) : cmpI a b ≤ 0 ↔ a ≤ b := by unfold cmpI; split <;> (try split) <;> omega
theorem rtCmp_le (a b : Rt) : rtCmp a b ≤ 0 ↔ (if a.second = b.second then (if a.second = true ∧ ¬ a.cost2 = b.cost2 then a.cost2 ≤ b.cost2 else a.cost ≤ b.cost) else b.second = true) := by
  unfold rtCmp
  split
  · split
    · exact cmpI_le _ _
    · exact cmpI_le _ _
  · cases b.second <;> simp
theorem rtCmp_trans (a b c : Rt) (h1 : rtCmp a b ≤ 0) (h2 : rtCmp b c ≤ 0) : rtCmp a c ≤ 0 := by
  rw [rtCmp_le] at *
  revert h1 h2
  cases a.second <;> cases b.second <;> cases c.second <;> simp
  · omega
  · split <;> split <;> split <;> omega
theorem rtCmp_first (a b : Rt) (h1 : a.second = false) (h2 : b.second = true) : rtCmp a b = -1 := by unfold rtCmp; rw [h1, h2]; simp

end Go.Proofs.YtiemmejpaahbpaaGreat
