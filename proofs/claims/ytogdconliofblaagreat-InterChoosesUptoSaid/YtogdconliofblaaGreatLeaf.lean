/-
  The small functions: comparisons.
-/
import Derived.Test.YtogdconliofblaaGreatMem
import Derived.Sort.Grow
import Derived.Deep.QuietTactic
import Derived.BigQuiet
import Derived.ChangeAlike
import Derived.Handy
import Derived.Deep.RegionHeld3
namespace Go.Proofs.YtogdconliofblaaGreat
open Go.RowKit

/-- nothing that was there has turned -/
structure Gr (w w' : World) : Prop where
  b : Below w.heap.size w w'
  d : w.drawn ≤ w'.drawn

theorem Gr.refl (w : World) : Gr w w := ⟨Below.refl _ _, Nat.le_refl _⟩
theorem Gr.alloc {w w' : World} (h : Gr w w') (o : Obj) : Gr w (w'.alloc o) := ⟨h.b.alloc h.b.size o, h.d⟩
theorem Gr.drew {w w' : World} (h : Gr w w') : Gr w w'.drew := ⟨h.b.drew, Nat.le_succ_of_le h.d⟩
theorem Gr.drewN {w w' : World} (h : Gr w w') (n : Nat) : Gr w (w'.drewN n) := ⟨⟨h.b.os, h.b.tape, h.b.output, h.b.size, h.b.block⟩, Nat.le_trans h.d (Nat.le_add_right _ _)⟩
theorem Gr.trans {a b c : World} (h : Gr a b) (k : Gr b c) : Gr a c := ⟨h.b.trans (k.b.mono h.b.size), Nat.le_trans h.d k.d⟩
theorem Gr.setCell {w w' : World} (h : Gr w w') {p : Addr} (hp : w.heap.size ≤ p.block) (u : Value) : Gr w (w'.setCell p u) := ⟨h.b.setCell hp u, h.d⟩

theorem Gr.grow {w w' : World} (h : Gr w w') : ∃ q os, w' = Go.Sort.grow (w.drewN q) os := by
  refine ⟨w'.drawn - w.drawn, w'.heap.extract w.heap.size w'.heap.size, ?_⟩
  obtain ⟨⟨h1, h2, h3, h4, h5⟩, h6⟩ := h
  obtain ⟨hp, tp, dr, os, op⟩ := w'
  obtain ⟨hp0, tp0, dr0, os0, op0⟩ := w
  simp only at h1 h2 h3 h4 h5 h6
  subst h1 h2 h3
  simp only [Go.Sort.grow, World.drewN, World.mk.injEq, and_true, true_and]
  refine ⟨?_, by omega⟩
  apply Array.ext'
  rw [Array.toList_append, Array.toList_extract]
  apply List.ext_getElem?
  intro i
  rw [List.getElem?_append]
  split
  · rename_i hi
    simpa using h5 i (by simpa using hi)
  · rename_i hi
    simp at hi
    simp only [Array.length_toList, List.extract_eq_take_drop]
    rw [List.getElem?_take]
    by_cases c : i < hp.size
    · rw [if_pos (by omega), List.getElem?_drop, show hp0.size + (i - hp0.size) = i from by omega]
    · rw [if_neg (by omega), Array.getElem?_toList, Array.getElem?_eq_none (by omega)]

/-- a cell of the block made last -/
theorem new_cell {W : World} {n : Nat} (hn : n = W.heap.size) {C : Array Value} {t : TypeId} {i : Nat} {v : Value} (h : C[i]? = some v) : (W.alloc (.cells C t)).drew.cell? ⟨n, i, none⟩ = some v := by
  subst hn
  show (W.alloc (.cells C t)).cell? _ = _
  exact blk_cell (alloc_new W _) h

/-- comparison: -1, 0, 1 -/
def cmpI (a b : Int) : Int := if a < b then -1 else if b < a then 1 else 0

theorem cmpI_lt {a b : Int} (h : a < b) : cmpI a b = -1 := if_pos h
theorem cmpI_gt {a b : Int} (h : b < a) : cmpI a b = 1 := by unfold cmpI; rw [if_neg (by omega), if_pos h]
theorem cmpI_eq {a b : Int} (h : a = b) : cmpI a b = 0 := by unfold cmpI; rw [if_neg (by omega), if_neg (by omega)]

set_option maxHeartbeats 400000 in
theorem cmp_int (a b : Int) (w : World) : Calls Tryz.prog 58 #[.int .i64 a, .int .i64 b] w fun e w' => e = .returned (.int .i64 (cmpI a b)) ∧ w = w' := by
  by_cases h1 : a < b
  · rw [cmpI_lt h1]
    go_enter Tryz.func58, Tryz.ntmps58
    go_wp2
    go_ret
    exact ⟨rfl, rfl⟩
  · by_cases h2 : b < a
    · rw [cmpI_gt h2]
      go_enter Tryz.func58, Tryz.ntmps58
      go_wp2
      go_ret
      exact ⟨rfl, rfl⟩
    · rw [cmpI_eq (by omega)]
      go_enter Tryz.func58, Tryz.ntmps58
      go_wp2
      go_ret
      exact ⟨rfl, rfl⟩

set_option maxHeartbeats 400000 in
theorem cmp_u32 (a b : Int) (w : World) : Calls Tryz.prog 78 #[.int .u32 a, .int .u32 b] w fun e w' => e = .returned (.int .i64 (cmpI a b)) ∧ w = w' := by
  by_cases h1 : a < b
  · rw [cmpI_lt h1]
    go_enter Tryz.func78, Tryz.ntmps78
    go_wp2
    go_ret
    exact ⟨rfl, rfl⟩
  · by_cases h2 : b < a
    · rw [cmpI_gt h2]
      go_enter Tryz.func78, Tryz.ntmps78
      go_wp2
      go_ret
      exact ⟨rfl, rfl⟩
    · rw [cmpI_eq (by omega)]
      go_enter Tryz.func78, Tryz.ntmps78
      go_wp2
      go_ret
      exact ⟨rfl, rfl⟩

set_option maxHeartbeats 400000 in
theorem cmp_addr (a b : Int) (w : World) : Calls Tryz.prog 138 #[.int .u32 a, .int .u32 b] w fun e w' => e = .returned (.int .i64 (cmpI a b)) ∧ w = w' := by
  by_cases h1 : a < b
  · rw [cmpI_lt h1]
    go_enter Tryz.func138, Tryz.ntmps138
    go_wp2
    go_ret
    exact ⟨rfl, rfl⟩
  · by_cases h2 : b < a
    · rw [cmpI_gt h2]
      go_enter Tryz.func138, Tryz.ntmps138
      go_wp2
      go_ret
      exact ⟨rfl, rfl⟩
    · rw [cmpI_eq (by omega)]
      go_enter Tryz.func138, Tryz.ntmps138
      go_wp2
      go_ret
      exact ⟨rfl, rfl⟩

/-- the first that is not 0 -/
def orI : List Int → Int
  | [] => 0
  | x :: l => if x = 0 then orI l else x

theorem orI_drop (l : List Int) (k : Nat) (h : k < l.length) : orI (l.drop k) = if l[k] = 0 then orI (l.drop (k + 1)) else l[k] := by
  rw [List.drop_eq_getElem_cons h]; rfl

set_option maxHeartbeats 800000 in
theorem or_int (l : List Int) (a : Option Addr) (cap : Nat) (w : World) (hl : l.length ≤ 9223372036854775807) (hc : 0 < l.length → ∃ b off, a = some ⟨b, off, none⟩ ∧ ∀ i (h : i < l.length), w.cell? ⟨b, off + i, none⟩ = some (.int .i64 l[i])) :
    Calls Tryz.prog 57 #[.slice a l.length cap] w fun e w' => e = .returned (.int .i64 (orI l)) ∧ w = w' := by
  have HC := Lib.hid hc
  clear hc
  go_enter Tryz.func57, Tryz.ntmps57
  go_wp2_with fail
  go_loop [8] (fun i => ∃ k : Nat, i = .int .i64 k ∧ k ≤ l.length ∧ Hid (orI l = orI (l.drop k))) (fun i => l.length - (intOf i).toNat)
  case atStart => exact ⟨0, rfl, Nat.zero_le _, Lib.hid rfl⟩
  case round =>
    obtain ⟨k, rfl, hk, E⟩ := hrel
    by_cases c : k < l.length
    · obtain ⟨b, off, rfl, hc⟩ := HC.out (by omega)
      have d := hc k c
      have E2 := Lib.hid (orI_drop l k c)
      clear hc
      generalize l[k] = x at d E2
      by_cases z : x = 0
      · subst z
        go_wp2_with fail
        go_round
        case rel => exact ⟨k + 1, by go_num, c, Lib.hid (by rw [E.out, E2.out]; rfl)⟩
        case measure => simp [intOf]; omega
      · have z' : (x == 0) = false := by simpa using z
        have z'' : (x != 0) = true := by simpa using z
        go_wp2_with fail
        go_ret
        exact ⟨by rw [E.out, E2.out, if_neg z]; rfl, rfl⟩
    · go_wp2_with fail
      go_ret
      exact ⟨by rw [E.out, List.drop_eq_nil_of_le (by omega)]; rfl, rfl⟩

def hopCmp (a b : Ls.Hop) : Int := orI [cmpI a.iface b.iface, cmpI a.addr b.addr, cmpI a.router b.router]

set_option maxHeartbeats 1000000 in
theorem order_calls (a b : Ls.Hop) (w : World) : Calls Tryz.prog 95 #[.agg (hopE a).toArray, .agg (hopE b).toArray] w fun e w' => e = .returned (.int .i64 (hopCmp a b)) ∧ Gr w w' := by
  obtain ⟨a1, a2, a3⟩ := a
  obtain ⟨b1, b2, b3⟩ := b
  unfold hopE hopCmp
  generalize hx1 : cmpI a1 b1 = x1
  generalize hx2 : cmpI a2 b2 = x2
  generalize hx3 : cmpI a3 b3 = x3
  have X1 := Lib.hid hx1
  have X2 := Lib.hid hx2
  have X3 := Lib.hid hx3
  clear hx1 hx2 hx3
  go_enter Tryz.func95, Tryz.ntmps95
  go_wp2_with fail
  go_region_held3 (fun W' => W'.cell? ⟨w.heap.size, 0, none⟩ = some (.int .i64 a1) ∧ W'.cell? ⟨w.heap.size, 1, none⟩ = some (.int .u32 a2) ∧ W'.cell? ⟨w.heap.size, 2, none⟩ = some (.int .u32 a3) ∧ W'.cell? ⟨w.heap.size + 1, 0, none⟩ = some (.int .i64 b1) ∧ W'.cell? ⟨w.heap.size + 1, 1, none⟩ = some (.int .u32 b2) ∧ W'.cell? ⟨w.heap.size + 1, 2, none⟩ = some (.int .u32 b3)) (go_keep)
    (first
    | (go_at_call 58; refine (cmp_int _ _ _).mono ?_; rintro e w' ⟨rfl, rfl⟩; rw [X1.out])
    | (go_at_call 138; refine (cmp_addr _ _ _).mono ?_; rintro e w' ⟨rfl, rfl⟩; rw [X2.out])
    | (go_at_call 78; refine (cmp_u32 _ _ _).mono ?_; rintro e w' ⟨rfl, rfl⟩; rw [X3.out])
    | (go_at_call 57; refine (or_int [x1, x2, x3] _ _ _ (by simp) ?_).mono ?_; (exact fun _ => ⟨_, 0, rfl, fun i hi => by match i, hi with | 0, _ => exact new_cell (by simp) rfl | 1, _ => exact new_cell (by simp) rfl | 2, _ => exact new_cell (by simp) rfl⟩); rintro e w' ⟨rfl, rfl⟩))
  go_wp2_with fail
  go_ret
  exact ⟨rfl, by repeat (first | exact Gr.refl _ | refine Gr.drew ?_ | refine Gr.alloc ?_ _ | refine Gr.drewN ?_ _)⟩

end Go.Proofs.YtogdconliofblaaGreat
