import Derived.Test.YtombnejipaoinaaGreatMem
import Derived.Sort.Grow
import Derived.Deep.QuietTactic
import Derived.BigQuiet
import Derived.ChangeAlike
import Derived.Handy
import Derived.Deep.RegionHeld3
import Derived.Lib.AppendZerosOnto
import Derived.Laws.AppendOwn
import Derived.OwnWalk
namespace Go.Proofs.YtombnejipaoinaaGreat
open Go.RowKit

structure Gr (w w' : World) : Prop where
  b : Below w.heap.size w w'
  d : w.drawn ≤ w'.drawn

theorem Gr.refl (w : World) : Gr w w := ⟨Below.refl _ _, Nat.le_refl _⟩
theorem Gr.alloc {w w' : World} (h : Gr w w') (o : Obj) : Gr w (w'.alloc o) := ⟨h.b.alloc h.b.size o, h.d⟩
theorem Gr.drew {w w' : World} (h : Gr w w') : Gr w w'.drew := ⟨h.b.drew, Nat.le_succ_of_le h.d⟩
theorem Gr.drewN {w w' : World} (h : Gr w w') (n : Nat) : Gr w (w'.drewN n) := ⟨⟨h.b.os, h.b.tape, h.b.output, h.b.size, h.b.block⟩, Nat.le_trans h.d (Nat.le_add_right _ _)⟩
theorem Gr.trans {a b c : World} (h : Gr a b) (k : Gr b c) : Gr a c := ⟨h.b.trans (k.b.mono h.b.size), Nat.le_trans h.d k.d⟩
theorem Gr.setCell {w w' : World} (h : Gr w w') {p : Addr} (hp : w.heap.size ≤ p.block) (u : Value) : Gr w (w'.setCell p u) := ⟨h.b.setCell hp u, h.d⟩

theorem Gr.grow {w w' : World} (h : Gr w w') : ∃ q os, w' = Go.Sort.grow (w.drewN q) os := by
  refine ⟨w'.drawn - w.drawn, w'.heap.extract w.heap.size w'.heap.size, ?_⟩
  obtain ⟨⟨h1, h2, h3, h4, h5⟩, h6⟩ := h
  obtain ⟨hp, tp, dr, os, op⟩ := w'
  obtain ⟨hp0, tp0, dr0, os0, op0⟩ := w
  simp only at h1 h2 h3 h4 h5 h6
  subst h1 h2 h3
  simp only [Go.Sort.grow, World.drewN, World.mk.injEq, and_true, true_and]
  refine ⟨?_, by omega⟩
  apply Array.ext'
  rw [Array.toList_append, Array.toList_extract]
  apply List.ext_getElem?
  intro i
  rw [List.getElem?_append]
  split
  · rename_i hi
    simpa using h5 i (by simpa using hi)
  · rename_i hi
    simp at hi
    simp only [Array.length_toList, List.extract_eq_take_drop]
    rw [List.getElem?_take]
    by_cases c : i < hp.size
    · rw [if_pos (by omega), List.getElem?_drop, show hp0.size + (i - hp0.size) = i from by omega]
    · rw [if_neg (by omega), Array.getElem?_toList, Array.getElem?_eq_none (by omega)]

theorem new_cell {W : World} {n : Nat} (hn : n = W.heap.size) {C : Array Value} {t : TypeId} {i : Nat} {v : Value} (h : C[i]? = some v) : (W.alloc (.cells C t)).drew.cell? ⟨n, i, none⟩ = some v := by
  subst hn
  show (W.alloc (.cells C t)).cell? _ = _
  exact blk_cell (alloc_new W _) h

def cmpI (a b : Int) : Int := if a < b then -1 else if b < a then 1 else 0

theorem cmpI_lt {a b : Int} (h : a < b) : cmpI a b = -1 := if_pos h
theorem cmpI_gt {a b : Int} (h : b < a) : cmpI a b = 1 := by unfold cmpI; rw [if_neg (by omega), if_pos h]
theorem cmpI_eq {a b : Int} (h : a = b) : cmpI a b = 0 := by unfold cmpI; rw [if_neg (by omega), if_neg (by omega)]

set_option maxHeartbeats 400000 in
theorem cmp_int (a b : Int) (w : World) : Calls Tryz.prog 170 #[.int .i64 a, .int .i64 b] w fun e w' => e = .returned (.int .i64 (cmpI a b)) ∧ w = w' := by
  by_cases h1 : a < b
  · rw [cmpI_lt h1]
    go_enter Tryz.func170, Tryz.ntmps170
    go_wp2
    go_ret
    exact ⟨rfl, rfl⟩
  · by_cases h2 : b < a
    · rw [cmpI_gt h2]
      go_enter Tryz.func170, Tryz.ntmps170
      go_wp2
      go_ret
      exact ⟨rfl, rfl⟩
    · rw [cmpI_eq (by omega)]
      go_enter Tryz.func170, Tryz.ntmps170
      go_wp2
      go_ret
      exact ⟨rfl, rfl⟩

set_option maxHeartbeats 400000 in
theorem cmp_u32 (a b : Int) (w : World) : Calls Tryz.prog 22 #[.int .u32 a, .int .u32 b] w fun e w' => e = .returned (.int .i64 (cmpI a b)) ∧ w = w' := by
  by_cases h1 : a < b
  · rw [cmpI_lt h1]
    go_enter Tryz.func22, Tryz.ntmps22
    go_wp2
    go_ret
    exact ⟨rfl, rfl⟩
  · by_cases h2 : b < a
    · rw [cmpI_gt h2]
      go_enter Tryz.func22, Tryz.ntmps22
      go_wp2
      go_ret
      exact ⟨rfl, rfl⟩
    · rw [cmpI_eq (by omega)]
      go_enter Tryz.func22, Tryz.ntmps22
      go_wp2
      go_ret
      exact ⟨rfl, rfl⟩

def orI : List Int → Int
  | [] => 0
  | x :: l => if x = 0 then orI l else x

theorem orI_drop (l : List Int) (k : Nat) (h : k < l.length) : orI (l.drop k) = if l[k] = 0 then orI (l.drop (k + 1)) else l[k] := by
  rw [List.drop_eq_getElem_cons h]; rfl

set_option maxHeartbeats 800000 in
theorem or_int (l : List Int) (a : Option Addr) (cap : Nat) (w : World) (hl : l.length ≤ 9223372036854775807) (hc : 0 < l.length → ∃ b off, a = some ⟨b, off, none⟩ ∧ ∀ i (h : i < l.length), w.cell? ⟨b, off + i, none⟩ = some (.int .i64 l[i])) :
    Calls Tryz.prog 21 #[.slice a l.length cap] w fun e w' => e = .returned (.int .i64 (orI l)) ∧ w = w' := by
  have HC := Lib.hid hc
  clear hc
  go_enter Tryz.func21, Tryz.ntmps21
  go_wp2_with fail
  go_loop [8] (fun i => ∃ k : Nat, i = .int .i64 k ∧ k ≤ l.length ∧ Hid (orI l = orI (l.drop k))) (fun i => l.length - (intOf i).toNat)
  case atStart => exact ⟨0, rfl, Nat.zero_le _, Lib.hid rfl⟩
  case round =>
    obtain ⟨k, rfl, hk, E⟩ := hrel
    by_cases c : k < l.length
    · obtain ⟨b, off, rfl, hc⟩ := HC.out (by omega)
      have d := hc k c
      have E2 := Lib.hid (orI_drop l k c)
      clear hc
      generalize l[k] = x at d E2
      by_cases z : x = 0
      · subst z
        go_wp2_with fail
        go_round
        case rel => exact ⟨k + 1, by go_num, c, Lib.hid (by rw [E.out, E2.out]; rfl)⟩
        case measure => simp [intOf]; omega
      · have z' : (x == 0) = false := by simpa using z
        have z'' : (x != 0) = true := by simpa using z
        go_wp2_with fail
        go_ret
        exact ⟨by rw [E.out, E2.out, if_neg z]; rfl, rfl⟩
    · go_wp2_with fail
      go_ret
      exact ⟨by rw [E.out, List.drop_eq_nil_of_le (by omega)]; rfl, rfl⟩
end Go.Proofs.YtombnejipaoinaaGreat

namespace Go.Proofs.YtombnejipaoinaaGreat
open Go.RowKit

theorem Below.owned {B : Nat} {w w1 w2 : World} {e : TypeId} {k n : Nat} {v : Value} {xs : List Value} (h : Below B w w1) (hB : B ≤ w1.heap.size) (ho : w1.ownsRow B e k v n xs) (hg : w1.grownBy w2 v.ownBlock) : Below B w w2 :=
  h.grown hg hB fun j hj => (ho.lt j hj).1

end Go.Proofs.YtombnejipaoinaaGreat
