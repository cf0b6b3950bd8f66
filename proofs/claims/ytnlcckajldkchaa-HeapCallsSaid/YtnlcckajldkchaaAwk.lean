/-
  The walk through 'awake': it returns true, in whatever memory, and what was there stays.
-/
import Derived.Test.YtnlcckajldkchaaWkg
namespace Go.Proofs.Ytnlcckajldkchaa
open Go.RowKit

theorem Fr.below {base : Nat → Prop} {hb pb kb : Nat} {w w' : World} (f : Fr base hb pb kb w w') (B : Nat) (h0 : ∀ k, k < B → ¬ base k) (h1 : B ≤ hb) (h2 : B ≤ pb) (h3 : B ≤ kb) : Below B w w' := by
  refine ⟨f.os, f.tape, f.output, f.size, fun k hk => f.block k (h0 k hk) (by omega) (by omega) (by omega)⟩

def T4 : Hp.Tb := ⟨[true, true, true], [5, 1, 5]⟩

set_option maxHeartbeats 1000000 in
theorem awake_rep (w : World) : Calls Try.prog 8 #[] w fun e w' => e = .returned (.bool true) ∧ Below w.heap.size w w' := by
  go_enter Try.func8, Try.ntmps8
  go_wp2_with fail
  refine (new_rep 3 w).mono ?_
  rintro e w1 ⟨hb, pb, kb, rfl, g1, g2, g3, r, bel⟩
  have h1 : HT (fun k => w1.heap.size ≤ k) hb pb kb w1 (tnew 3) := HT.first r fun _ _ => rfl
  have sz : ∀ k, k < w.heap.size → ¬ (fun k => w1.heap.size ≤ k) k := fun k hk h => by have := bel.size; simp at h; omega
  generalize (fun k => w1.heap.size ≤ k) = base at h1 sz
  clear r
  go_wp2_with fail
  refine (hset h1 _ _).mono ?_
  rintro e w2 ⟨rfl, h2, f2⟩
  replace h2 : HT base hb pb kb w2 ⟨[false, false, true], [0, 0, 5]⟩ := h2
  replace bel := bel.trans (f2.below w.heap.size sz g1 g2 g3)
  clear h1 f2
  go_wp2_with fail
  refine (hset h2 _ _).mono ?_
  rintro e w3 ⟨rfl, h3, f3⟩
  replace h3 : HT base hb pb kb w3 ⟨[true, false, true], [5, 0, 5]⟩ := h3
  replace bel := bel.trans (f3.below w.heap.size sz g1 g2 g3)
  clear h2 f3
  go_wp2_with fail
  refine (hset h3 _ _).mono ?_
  rintro e w4 ⟨rfl, h4, f4⟩
  replace h4 : HT base hb pb kb w4 ⟨[true, true, true], [5, 9, 5]⟩ := h4
  replace bel := bel.trans (f4.below w.heap.size sz g1 g2 g3)
  clear h3 f4
  go_wp2_with fail
  refine (hset h4 _ _).mono ?_
  rintro e w5 ⟨rfl, h5, f5⟩
  replace h5 : HT base hb pb kb w5 ⟨[true, true, true], [5, 1, 5]⟩ := h5
  replace bel := bel.trans (f5.below w.heap.size sz g1 g2 g3)
  clear h4 f5
  go_wp2_with fail
  refine (hpop h5).mono ?_
  rintro e w6 ⟨rfl, h6, f6⟩
  rw [show trip (tmin ⟨[true, true, true], [5, 1, 5]⟩) = .tuple #[.int .i64 1, .int .i64 1, .bool true] from rfl]
  replace h6 : HT base hb pb kb w6 ⟨[true, false, true], [5, 1, 5]⟩ := h6
  replace bel := bel.trans (f6.below w.heap.size sz g1 g2 g3)
  clear h5 f6
  go_wp2_with fail
  refine (hpop h6).mono ?_
  rintro e w7 ⟨rfl, h7, f7⟩
  rw [show trip (tmin ⟨[true, false, true], [5, 1, 5]⟩) = .tuple #[.int .i64 0, .int .i64 5, .bool true] from rfl]
  replace h7 : HT base hb pb kb w7 ⟨[false, false, true], [5, 1, 5]⟩ := h7
  replace bel := bel.trans (f7.below w.heap.size sz g1 g2 g3)
  clear h6 f7
  go_wp2_with fail
  refine (hpop h7).mono ?_
  rintro e w8 ⟨rfl, h8, f8⟩
  rw [show trip (tmin ⟨[false, false, true], [5, 1, 5]⟩) = .tuple #[.int .i64 2, .int .i64 5, .bool true] from rfl]
  replace h8 : HT base hb pb kb w8 ⟨[false, false, false], [5, 1, 5]⟩ := h8
  replace bel := bel.trans (f8.below w.heap.size sz g1 g2 g3)
  clear h7 f8
  go_wp2_with fail
  refine (hpop h8).mono ?_
  rintro e w9 ⟨rfl, h9, f9⟩
  rw [show trip (tmin ⟨[false, false, false], [5, 1, 5]⟩) = .tuple #[.int .i64 0, .int .i64 0, .bool false] from rfl]
  replace bel := bel.trans (f9.below w.heap.size sz g1 g2 g3)
  clear h8 f9 h9
  go_wp2_with fail
  go_ret
  exact ⟨rfl, bel⟩

set_option maxHeartbeats 1000000 in
theorem heapNil_walk (x k : Int) (w : World) : Calls Try.prog 7 #[.int .i64 x, .int .i64 k] w fun e w' => e = .returned (.bool true) ∧ Below w.heap.size w w' := by
  go_enter Try.func7, Try.ntmps7
  go_wp2_with fail
  refine (min_nil w).mono ?_
  rintro e w' ⟨rfl, rfl⟩
  rw [show trip (0, 0, false) = .tuple #[.int .i64 0, .int .i64 0, .bool false] from rfl]
  go_wp2_with fail
  refine (pop_nil w).mono ?_
  rintro e w' ⟨rfl, rfl⟩
  go_wp2_with fail
  refine (key_nil x w).mono ?_
  rintro e w' ⟨rfl, rfl⟩
  go_wp2_with fail
  refine (awake_rep w).mono ?_
  rintro e w1 ⟨rfl, bel⟩
  go_wp2_with fail
  refine (set_nil x k w1).mono ?_
  rintro e w' ⟨rfl, rfl⟩
  go_wp2_with fail
  refine (drop_nil x w1).mono ?_
  rintro e w' ⟨rfl, rfl⟩
  go_wp2_with fail
  refine (len_nil w1).mono ?_
  rintro e w' ⟨rfl, rfl⟩
  go_wp2_with fail
  go_ret
  exact ⟨rfl, bel⟩

end Go.Proofs.Ytnlcckajldkchaa
