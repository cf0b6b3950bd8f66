/-
  routingref23.Keep.
-/
import Derived.Test.YtogdconliofblaaGreatSea
import Derived.IntWalk
namespace Go.Proofs.YtogdconliofblaaGreat
open Go.RowKit

/-- x without its bits m .. k - 1 (bit 0 is the greatest of 32) -/
def kpN (x m k : Nat) : Nat := x / 2 ^ (32 - m) * 2 ^ (32 - m) + x % 2 ^ (32 - k)
theorem kpN_lt (x m k : Nat) (hx : x < 4294967296) (hmk : m ≤ k) (_hk : k ≤ 32) : kpN x m k < 4294967296 := by
  unfold kpN
  have h1 := Nat.div_add_mod' x (2 ^ (32 - m))
  have h2 : x % 2 ^ (32 - k) ≤ x % 2 ^ (32 - m) := by
    rw [show 2 ^ (32 - m) = 2 ^ (32 - k) * 2 ^ (k - m) from by rw [← Nat.pow_add]; congr 1; omega, Nat.mod_mul]
    omega
  omega
theorem kpN_start (x m : Nat) : kpN x m m = x := Nat.div_add_mod' x _
theorem kpN_end (x m : Nat) : kpN x m 32 = x / 2 ^ (32 - m) * 2 ^ (32 - m) := by unfold kpN; simp [Nat.mod_one]
theorem kpN_step (x m k : Nat) (hmk : m ≤ k) (hk : k < 32) : kpN x m k / 2 ^ (31 - k) % 2 = x / 2 ^ (31 - k) % 2 ∧ kpN x m k = kpN x m (k + 1) + 2 ^ (31 - k) * (x / 2 ^ (31 - k) % 2) := by
  unfold kpN
  have e1 : 2 ^ (32 - k) = 2 ^ (31 - k) * 2 := by rw [← Nat.pow_succ]; congr 1; omega
  have e2 : 2 ^ (32 - m) = 2 ^ (31 - k) * (2 * 2 ^ (k - m)) := by rw [← Nat.mul_assoc, ← e1, ← Nat.pow_add]; congr 1; omega
  have e3 : 32 - (k + 1) = 31 - k := by omega
  have hP : 0 < 2 ^ (31 - k) := Nat.pow_pos (by omega)
  rw [e3, e1, e2, Nat.mod_mul]
  generalize 2 ^ (31 - k) = P at *
  generalize 2 ^ (k - m) = Q at *
  refine ⟨?_, by omega⟩
  have h1 : x / (P * (2 * Q)) * (P * (2 * Q)) + (x % P + P * (x / P % 2)) = x % P + P * (2 * (x / (P * (2 * Q)) * Q) + x / P % 2) := by
    have : x / (P * (2 * Q)) * (P * (2 * Q)) = P * (2 * (x / (P * (2 * Q)) * Q)) := by
      rw [← Nat.mul_assoc, Nat.mul_comm (x / (P * (2 * Q))) P, Nat.mul_assoc]
      congr 1
      rw [← Nat.mul_assoc, Nat.mul_comm (x / (P * (2 * Q))) 2, Nat.mul_assoc]
    rw [this, Nat.mul_add]; omega
  rw [h1, Nat.add_mul_div_left _ _ hP, Nat.div_eq_of_lt (Nat.mod_lt _ hP)]
  omega

theorem nat_emod {P : Nat} (h : P < 4294967296) : (P : Int) % 4294967296 = P := by omega

theorem and_pow (y j : Nat) : y &&& 2 ^ j = 2 ^ j * (y / 2 ^ j % 2) := by
  have hb : y.testBit j = decide (y / 2 ^ j % 2 = 1) := Nat.testBit_eq_decide_div_mod_eq
  apply Nat.eq_of_testBit_eq
  intro i
  rw [Nat.testBit_and, Nat.testBit_two_pow]
  rcases Nat.mod_two_eq_zero_or_one (y / 2 ^ j) with h | h
  · rw [h, Nat.mul_zero, Nat.zero_testBit]
    by_cases e : j = i
    · subst e; rw [hb, h]; rfl
    · simp [e]
  · rw [h, Nat.mul_one, Nat.testBit_two_pow]
    by_cases e : j = i
    · subst e; rw [hb, h]; rfl
    · simp [e]

theorem and_bit (y k : Nat) (hy : y < 4294967296) (hk : k < 32) : bits BinOp.and IntKind.u32 (y : Int) (2 ^ (31 - k) % 4294967296) = ((2 ^ (31 - k) * (y / 2 ^ (31 - k) % 2) : Nat) : Int) := by
  have hp : 2 ^ (31 - k) < 4294967296 := Nat.lt_of_le_of_lt (Nat.pow_le_pow_right (by omega) (by omega : 31 - k ≤ 31)) (by decide)
  have e : ((2 : Int) ^ (31 - k) % 4294967296) = ((2 ^ (31 - k) : Nat) : Int) := by
    rw [two_pow_cast]
    exact nat_emod hp
  rw [e, (bits_nat .u32 32 (by decide) wraps_u32 y (2 ^ (31 - k)) (by omega) (by omega)).1, and_pow]

theorem keepN (x m : Nat) (hm : m ≤ 32) : keepI (x : Int) (m : Int) = ((kpN x m 32 : Nat) : Int) := by
  rw [kpN_end]
  unfold keepI
  rw [show (32 - (m : Int)).toNat = 32 - m from by omega]
  have := Nat.div_add_mod' x (2 ^ (32 - m))
  generalize 2 ^ (32 - m) = P at *
  generalize x / P * P = q at *
  omega

set_option maxHeartbeats 1000000 in
theorem keep23_calls (x n : Int) (h0 : 0 ≤ n) (h1 : n ≤ 32) (x0 : 0 ≤ x) (x1 : x < 4294967296) (w : World) : Calls Tryz.prog 89 #[.int .u32 x, .int .i64 n] w fun e w' => e = .returned (.int .u32 (keepI x n)) ∧ w = w' := by
  obtain ⟨m, rfl⟩ := Int.eq_ofNat_of_zero_le h0
  obtain ⟨x, rfl⟩ := Int.eq_ofNat_of_zero_le x0
  have hm : m ≤ 32 := by omega
  have hx : x < 4294967296 := by omega
  have KE := Lib.hid (keepN x m hm)
  clear h0 h1 x0 x1
  go_enter Tryz.func89, Tryz.ntmps89
  go_wp2_with fail
  go_loop [0, 5] (fun v i => ∃ (k y : Nat), i = .int .i64 k ∧ v = .int .u32 y ∧ m ≤ k ∧ k ≤ 32 ∧ Hid (y = kpN x m k)) (fun _ i => 32 - (intOf i).toNat)
  case atStart => exact ⟨m, x, rfl, rfl, Nat.le_refl _, hm, Lib.hid (kpN_start x m).symm⟩
  case round =>
    obtain ⟨k, y, rfl, rfl, hmk, hk, Y⟩ := hrel
    have hy : y < 4294967296 := by rw [Y.out]; exact kpN_lt x m k hx hmk hk
    by_cases c : k < 32
    · have eb := and_bit y k hy c
      obtain ⟨s1, s2⟩ := kpN_step x m k hmk c
      rw [← Y.out] at s1 s2
      rw [s1] at eb
      rcases Nat.mod_two_eq_zero_or_one (x / 2 ^ (31 - k)) with hb | hb
      · rw [hb, Nat.mul_zero] at eb
        rw [hb, Nat.mul_zero, Nat.add_zero] at s2
        have S2 := Lib.hid s2
        have eb2 : (bits BinOp.and IntKind.u32 (y : Int) (2 ^ (31 - k) % 4294967296) != 0) = false := by rw [eb]; rfl
        clear hb s1 s2 eb
        go_wp2_with fail
        go_round
        case rel => exact ⟨k + 1, y, by go_num, rfl, by omega, c, S2⟩
        case measure => simp [intOf]; omega
      · rw [hb, Nat.mul_one] at eb
        rw [hb, Nat.mul_one] at s2
        have hp : 0 < 2 ^ (31 - k) := Nat.pow_pos (by omega)
        have eb2 : (bits BinOp.and IntKind.u32 (y : Int) (2 ^ (31 - k) % 4294967296) != 0) = true := by
          rw [eb]; simp only [bne_iff_ne, ne_eq]; omega
        have S2 : Hid (y - 2 ^ (31 - k) = kpN x m (k + 1)) := Lib.hid (by omega)
        have EV : Hid (((y : Int) - 2 ^ (31 - k) % 4294967296) % 4294967296 = ((y - 2 ^ (31 - k) : Nat) : Int)) := Lib.hid (by
          have e : ((2 : Int) ^ (31 - k) % 4294967296) = ((2 ^ (31 - k) : Nat) : Int) := by rw [two_pow_cast]; exact nat_emod (Nat.lt_of_le_of_lt (Nat.pow_le_pow_right (by omega) (by omega : 31 - k ≤ 31)) (by decide))
          rw [e]; omega)
        clear hb s1 s2 eb hp
        go_wp2_with fail
        go_round
        case rel =>
          exact ⟨k + 1, _, by go_num, by rw [EV.out], by omega, c, S2⟩
        case measure => simp [intOf]; omega
    · obtain rfl : k = 32 := by omega
      go_wp2_with fail
      go_ret
      exact ⟨by rw [KE.out, Y.out]; rfl, rfl⟩

end Go.Proofs.YtogdconliofblaaGreat
