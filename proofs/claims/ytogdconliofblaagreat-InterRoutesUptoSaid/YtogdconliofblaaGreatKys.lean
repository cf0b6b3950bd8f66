/-
  routingref23: Words, Key, CompareKeys, Links.
-/
import Derived.Test.YtogdconliofblaaGreatRef
import Derived.Test.YtogdconliofblaaGreatLsa
namespace Go.Proofs.YtogdconliofblaaGreat
open Go.RowKit

set_option maxHeartbeats 400000 in
theorem words_calls (a b : Int) (w : World) : Calls Tryz.prog 123 #[.int .u32 a, .int .u32 b] w fun e w' => e = .returned (.int .i64 (cmpI a b)) ∧ w = w' := by
  by_cases h1 : a < b
  · rw [cmpI_lt h1]
    go_enter Tryz.func123, Tryz.ntmps123
    go_wp2
    go_ret
    exact ⟨rfl, rfl⟩
  · by_cases h2 : b < a
    · rw [cmpI_gt h2]
      go_enter Tryz.func123, Tryz.ntmps123
      go_wp2
      go_ret
      exact ⟨rfl, rfl⟩
    · rw [cmpI_eq (by omega)]
      go_enter Tryz.func123, Tryz.ntmps123
      go_wp2
      go_ret
      exact ⟨rfl, rfl⟩

theorem cmpI_ne {a b : Int} (h : ¬ a = b) : cmpI a b ≠ 0 := by unfold cmpI; split <;> (try split) <;> omega

theorem orI_zero {x : Int} {l : List Int} (h : x = 0) : orI (x :: l) = orI l := if_pos h
theorem orI_ne {x : Int} {l : List Int} (h : x ≠ 0) : orI (x :: l) = x := if_neg h
theorem orI_one (x : Int) : orI [x] = x := by
  by_cases h : x = 0
  · rw [orI_zero h, h]; rfl
  · exact orI_ne h

/-- the key of an advertisement -/
structure Kk where
  typ : Int
  id : Int
  len : Int
  router : Int
deriving DecidableEq, Inhabited
def keyE (k : Kk) : List Value := [.int .i64 k.typ, .int .u32 k.id, .int .i64 k.len, .int .u32 k.router]
def kkCmp (a b : Kk) : Int := orI [cmpI a.typ b.typ, cmpI a.id b.id, cmpI a.len b.len, cmpI a.router b.router]

set_option maxHeartbeats 1000000 in
theorem key_calls (t id len r seq age sum : Int) (w : World) : Calls Tryz.prog 79 #[.agg #[.int .i64 t, .int .u32 id, .int .i64 len, .int .u32 r, .int .i64 seq, .int .i64 age, .int .i64 sum]] w fun e w' => e = .returned (.agg (keyE ⟨t, id, len, r⟩).toArray) ∧ Gr w w' := by
  go_enter Tryz.func79, Tryz.ntmps79
  go_wp2_with fail
  exact bodyPost_ret (v := .agg #[.int .i64 t, .int .u32 id, .int .i64 len, .int .u32 r]) (by simp [results, Tryz.results79, go_sem]) rfl ⟨rfl, by repeat (first | exact Gr.refl _ | refine Gr.drew ?_ | refine Gr.alloc ?_ _ | refine Gr.setCell ?_ (by simp) _)⟩

set_option maxHeartbeats 1000000 in
theorem ckeys_raw (x0 y0 x1 y1 x2 y2 x3 y3 : Int) (w : World) : Calls Tryz.prog 83 #[.agg #[.int .i64 x0, .int .u32 x1, .int .i64 x2, .int .u32 x3], .agg #[.int .i64 y0, .int .u32 y1, .int .i64 y2, .int .u32 y3]] w fun e w' => e = .returned (.int .i64 (orI [cmpI x0 y0, cmpI x1 y1, cmpI x2 y2, cmpI x3 y3])) ∧ Gr w w' := by
  by_cases h0 : x0 = y0
  · subst h0
    have e0 : cmpI x0 x0 = 0 := cmpI_eq rfl
    have q0 : (x0 != x0) = false := by simp
    rw [orI_zero e0]
    clear e0
    by_cases h1 : x1 = y1
    · subst h1
      have e1 : cmpI x1 x1 = 0 := cmpI_eq rfl
      have q1 : (x1 != x1) = false := by simp
      rw [orI_zero e1]
      clear e1
      by_cases h2 : x2 = y2
      · subst h2
        have e2 : cmpI x2 x2 = 0 := cmpI_eq rfl
        have q2 : (x2 != x2) = false := by simp
        rw [orI_zero e2]
        clear e2
        rw [orI_one]
        have C := Lib.hid (fun W => words_calls x3 y3 W)
        generalize cmpI x3 y3 = r at C ⊢
        go_enter Tryz.func83, Tryz.ntmps83
        go_wp2_with fail
        refine (C.out _).mono ?_
        rintro e w1 ⟨rfl, rfl⟩
        go_wp2_with fail
        go_ret
        exact ⟨rfl, ((Gr.refl _).alloc _).alloc _⟩
      · have n2 := cmpI_ne h2
        have q2 : (x2 != y2) = true := by simpa using h2
        have p2 : (x2 == y2) = false := by simpa using h2
        rw [orI_ne n2]
        clear n2 h2
        have C := Lib.hid (fun W => numbers_calls x2 y2 W)
        generalize cmpI x2 y2 = r at C ⊢
        go_enter Tryz.func83, Tryz.ntmps83
        go_wp2_with fail
        refine (C.out _).mono ?_
        rintro e w1 ⟨rfl, rfl⟩
        go_wp2_with fail
        go_ret
        exact ⟨rfl, ((Gr.refl _).alloc _).alloc _⟩
    · have n1 := cmpI_ne h1
      have q1 : (x1 != y1) = true := by simpa using h1
      have p1 : (x1 == y1) = false := by simpa using h1
      rw [orI_ne n1]
      clear n1 h1
      have C := Lib.hid (fun W => words_calls x1 y1 W)
      generalize cmpI x1 y1 = r at C ⊢
      go_enter Tryz.func83, Tryz.ntmps83
      go_wp2_with fail
      refine (C.out _).mono ?_
      rintro e w1 ⟨rfl, rfl⟩
      go_wp2_with fail
      go_ret
      exact ⟨rfl, ((Gr.refl _).alloc _).alloc _⟩
  · have n0 := cmpI_ne h0
    have q0 : (x0 != y0) = true := by simpa using h0
    have p0 : (x0 == y0) = false := by simpa using h0
    rw [orI_ne n0]
    clear n0 h0
    have C := Lib.hid (fun W => numbers_calls x0 y0 W)
    generalize cmpI x0 y0 = r at C ⊢
    go_enter Tryz.func83, Tryz.ntmps83
    go_wp2_with fail
    refine (C.out _).mono ?_
    rintro e w1 ⟨rfl, rfl⟩
    go_wp2_with fail
    go_ret
    exact ⟨rfl, ((Gr.refl _).alloc _).alloc _⟩

set_option maxHeartbeats 1000000 in
theorem links_raw (x0 y0 x1 y1 x2 y2 x3 y3 : Int) (w : World) : Calls Tryz.prog 151 #[.agg #[.int .i64 x0, .int .u32 x1, .int .u32 x2, .int .i64 x3], .agg #[.int .i64 y0, .int .u32 y1, .int .u32 y2, .int .i64 y3]] w fun e w' => e = .returned (.int .i64 (orI [cmpI x0 y0, cmpI x1 y1, cmpI x2 y2])) ∧ Gr w w' := by
  by_cases h0 : x0 = y0
  · subst h0
    have e0 : cmpI x0 x0 = 0 := cmpI_eq rfl
    have q0 : (x0 != x0) = false := by simp
    rw [orI_zero e0]
    clear e0
    by_cases h1 : x1 = y1
    · subst h1
      have e1 : cmpI x1 x1 = 0 := cmpI_eq rfl
      have q1 : (x1 != x1) = false := by simp
      rw [orI_zero e1]
      clear e1
      rw [orI_one]
      have C := Lib.hid (fun W => words_calls x2 y2 W)
      generalize cmpI x2 y2 = r at C ⊢
      go_enter Tryz.func151, Tryz.ntmps151
      go_wp2_with fail
      refine (C.out _).mono ?_
      rintro e w1 ⟨rfl, rfl⟩
      go_wp2_with fail
      go_ret
      exact ⟨rfl, ((Gr.refl _).alloc _).alloc _⟩
    · have n1 := cmpI_ne h1
      have q1 : (x1 != y1) = true := by simpa using h1
      have p1 : (x1 == y1) = false := by simpa using h1
      rw [orI_ne n1]
      clear n1 h1
      have C := Lib.hid (fun W => words_calls x1 y1 W)
      generalize cmpI x1 y1 = r at C ⊢
      go_enter Tryz.func151, Tryz.ntmps151
      go_wp2_with fail
      refine (C.out _).mono ?_
      rintro e w1 ⟨rfl, rfl⟩
      go_wp2_with fail
      go_ret
      exact ⟨rfl, ((Gr.refl _).alloc _).alloc _⟩
  · have n0 := cmpI_ne h0
    have q0 : (x0 != y0) = true := by simpa using h0
    have p0 : (x0 == y0) = false := by simpa using h0
    rw [orI_ne n0]
    clear n0 h0
    have C := Lib.hid (fun W => numbers_calls x0 y0 W)
    generalize cmpI x0 y0 = r at C ⊢
    go_enter Tryz.func151, Tryz.ntmps151
    go_wp2_with fail
    refine (C.out _).mono ?_
    rintro e w1 ⟨rfl, rfl⟩
    go_wp2_with fail
    go_ret
    exact ⟨rfl, ((Gr.refl _).alloc _).alloc _⟩

theorem ckeys_calls (a b : Kk) (w : World) : Calls Tryz.prog 83 #[.agg (keyE a).toArray, .agg (keyE b).toArray] w fun e w' => e = .returned (.int .i64 (kkCmp a b)) ∧ Gr w w' :=
  ckeys_raw _ _ _ _ _ _ _ _ w

end Go.Proofs.YtogdconliofblaaGreat
