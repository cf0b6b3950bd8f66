/-
  The walks through the methods Key, Min and Drop of the heap.
-/
import Derived.Test.YtnlcckajldkchaaWkb
namespace Go.Proofs.Ytnlcckajldkchaa
open Go.RowKit

/-! ### has -/

theorem has_yes {base : Nat → Prop} {hb pb kb : Nat} {w : World} {v : Value} {s : Hp.St} (r : Rep base hb pb kb w v s) (x : Nat) (hx : x < s.place.length) (hp : 0 ≤ s.place.getD x 0) :
    Calls Try.prog 27 #[.pointer (some ⟨hb, 0, none⟩), .int .i64 x] w fun e w' => e = .returned (.bool true) ∧ w = w' := by
  have := has_walk hb pb _ _ x w r.c1 (s.place.getD x 0) (by omega) (by omega) (by rw [Int.toNat_natCast]; exact r.cp hx)
  rw [decide_eq_true hp] at this; exact this

theorem has_no {base : Nat → Prop} {hb pb kb : Nat} {w : World} {v : Value} {s : Hp.St} (r : Rep base hb pb kb w v s) (x : Int) (h : x < 0 ∨ (s.place.length : Int) ≤ x ∨ s.place.getD x.toNat 0 < 0) :
    Calls Try.prog 27 #[.pointer (some ⟨hb, 0, none⟩), .int .i64 x] w fun e w' => e = .returned (.bool false) ∧ w = w' := by
  by_cases c : x < 0 ∨ (s.place.length : Int) ≤ x
  · exact has_out hb pb _ _ x w r.c1 c
  · have c3 : s.place.getD x.toNat 0 < 0 := by omega
    have := has_walk hb pb _ _ x w r.c1 (s.place.getD x.toNat 0) (by omega) (by omega) (r.cp (by omega))
    rw [decide_eq_false (by omega)] at this; exact this

/-! ### Key -/

set_option maxHeartbeats 400000 in
theorem key_yes {base : Nat → Prop} {hb pb kb : Nat} {w : World} {v : Value} {s : Hp.St} (r : Rep base hb pb kb w v s) (x : Nat) (hx : x < s.place.length) (hp : 0 ≤ s.place.getD x 0) :
    Calls Try.prog 17 #[.pointer (some ⟨hb, 0, none⟩), .int .i64 x] w fun e w' => e = .returned (.tuple #[.int .i64 (s.key x), .bool true]) ∧ w = w' := by
  have sm := r.small
  have c2 := r.c2
  have ck := r.ck hx
  go_enter Try.func17, Try.ntmps17
  go_wp2_with fail
  refine (has_yes r x hx hp).mono ?_
  rintro e w' ⟨rfl, rfl⟩
  go_wp2_with fail
  go_ret2
  exact ⟨rfl, rfl⟩

set_option maxHeartbeats 400000 in
theorem key_no {base : Nat → Prop} {hb pb kb : Nat} {w : World} {v : Value} {s : Hp.St} (r : Rep base hb pb kb w v s) (x : Int) (h : x < 0 ∨ (s.place.length : Int) ≤ x ∨ s.place.getD x.toNat 0 < 0) :
    Calls Try.prog 17 #[.pointer (some ⟨hb, 0, none⟩), .int .i64 x] w fun e w' => e = .returned (.tuple #[.int .i64 0, .bool false]) ∧ w = w' := by
  have H := Lib.hid h
  clear h
  go_enter Try.func17, Try.ntmps17
  go_wp2_with fail
  refine (has_no r x H.out).mono ?_
  rintro e w' ⟨rfl, rfl⟩
  go_wp2_with fail
  go_ret2
  exact ⟨rfl, rfl⟩

set_option maxHeartbeats 400000 in
theorem key_nil (x : Int) (w : World) :
    Calls Try.prog 17 #[.pointer none, .int .i64 x] w fun e w' => e = .returned (.tuple #[.int .i64 0, .bool false]) ∧ w = w' := by
  go_enter Try.func17, Try.ntmps17
  go_wp2_with fail
  refine (has_nil x w).mono ?_
  rintro e w' ⟨rfl, rfl⟩
  go_wp2_with fail
  go_ret2
  exact ⟨rfl, rfl⟩

/-! ### Min -/

def trip (m : Nat × Int × Bool) : Value := .tuple #[.int .i64 m.1, .int .i64 m.2.1, .bool m.2.2]

set_option maxHeartbeats 400000 in
theorem min_nil (w : World) :
    Calls Try.prog 18 #[.pointer none] w fun e w' => e = .returned (trip (0, 0, false)) ∧ w = w' := by
  go_enter Try.func18, Try.ntmps18
  go_wp2_with fail
  refine (len_nil w).mono ?_
  rintro e w' ⟨rfl, rfl⟩
  go_wp2_with fail
  go_ret3
  exact ⟨rfl, rfl⟩

set_option maxHeartbeats 400000 in
theorem min_no {base : Nat → Prop} {hb pb kb : Nat} {w : World} {v : Value} {s : Hp.St} (r : Rep base hb pb kb w v s) (h : s.len = 0) :
    Calls Try.prog 18 #[.pointer (some ⟨hb, 0, none⟩)] w fun e w' => e = .returned (trip (Hp.minOf s)) ∧ ∃ n, w' = w.drewN n := by
  have lr := len_rep r
  rw [h] at lr
  have LR := Lib.hid lr
  have e0 : trip (Hp.minOf s) = trip (0, 0, false) := by unfold Hp.minOf; rw [if_pos h]
  rw [e0]
  clear lr h e0
  go_enter Try.func18, Try.ntmps18
  go_wp2_with fail
  refine LR.out.mono ?_
  rintro e w' ⟨rfl, rfl⟩
  go_wp2_with fail
  go_ret3
  exact ⟨rfl, 0, rfl⟩

set_option maxHeartbeats 400000 in
theorem min_yes {base : Nat → Prop} {hb pb kb : Nat} {w : World} {v : Value} {s : Hp.St} (r : Rep base hb pb kb w v s) (f : Hp.Wf s) (h : 0 < s.len) :
    Calls Try.prog 18 #[.pointer (some ⟨hb, 0, none⟩)] w fun e w' => e = .returned (trip (Hp.minOf s)) ∧ ∃ n, w' = w.drewN n := by
  have hl : 0 < s.items.length := h
  obtain ⟨g, cap, hv, _, _, hc, _⟩ := r.row hl
  have c0 := r.c0
  rw [hv] at c0
  have c2 := r.c2
  have g0 := hc 0 hl
  have p1 := f.inr 0 h
  have k1 := r.ck p1
  have sm := r.small
  have e0 : trip (Hp.minOf s) = .tuple #[.int .i64 (s.get 0 : Nat), .int .i64 (s.key (s.get 0)), .bool true] := by unfold Hp.minOf; rw [if_neg (by omega)]; rfl
  have len0 : ((s.len : Int) == 0) = false := by simp; omega
  have i0 : (0 : Int) < (s.items.length : Int) := by omega
  have p1' : ((s.get 0 : Nat) : Int) < (s.place.length : Int) := by omega
  rw [e0]
  clear hc e0 hv
  go_enter Try.func18, Try.ntmps18
  go_wp2_with fail
  refine (len_rep r).mono ?_
  rintro e w' ⟨rfl, rfl⟩
  go_wp2_with fail
  go_quiet (fail)
  go_wp2
  go_ret3
  exact ⟨rfl, _, rfl⟩

theorem min_rep {base : Nat → Prop} {hb pb kb : Nat} {w : World} {v : Value} {s : Hp.St} (r : Rep base hb pb kb w v s) (f : Hp.Wf s) :
    Calls Try.prog 18 #[.pointer (some ⟨hb, 0, none⟩)] w fun e w' => e = .returned (trip (Hp.minOf s)) ∧ ∃ n, w' = w.drewN n := by
  rcases Nat.eq_zero_or_pos s.len with h | h
  · exact min_no r h
  · exact min_yes r f h

end Go.Proofs.Ytnlcckajldkchaa
