/-
  routingref26.within, hello.within, routingref23.Fits.
-/
import Derived.Test.YtombnejipaoinaaGreatBit
namespace Go.Proofs.YtombnejipaoinaaGreat
open Go.RowKit

def withinB (n lo hi : Int) : Bool := decide (lo ≤ n) && decide (n ≤ hi)

set_option maxHeartbeats 400000 in
theorem within26_calls (n lo hi : Int) (w : World) : Calls Tryz.prog 52 #[.int .i64 n, .int .i64 lo, .int .i64 hi] w fun e w' => e = .returned (.bool (withinB n lo hi)) ∧ w = w' := by
  by_cases h1 : lo ≤ n
  · by_cases h2 : n ≤ hi
    · rw [show withinB n lo hi = true from by simp [withinB, h1, h2]]
      go_enter Tryz.func52, Tryz.ntmps52
      go_wp2_with fail
      go_ret
      exact ⟨rfl, rfl⟩
    · rw [show withinB n lo hi = false from by simp [withinB, h1, h2]]
      have d2 : decide (n ≤ hi) = false := by simpa using h2
      go_enter Tryz.func52, Tryz.ntmps52
      go_wp2_with fail
      go_ret
      exact ⟨rfl, rfl⟩
  · rw [show withinB n lo hi = false from by simp [withinB, h1]]
    have d1 : decide (lo ≤ n) = false := by simpa using h1
    go_enter Tryz.func52, Tryz.ntmps52
    go_wp2_with fail
    go_ret
    exact ⟨rfl, rfl⟩

set_option maxHeartbeats 400000 in
theorem hwithin_calls (n lo hi : Int) (w : World) : Calls Tryz.prog 127 #[.int .i64 n, .int .i64 lo, .int .i64 hi] w fun e w' => e = .returned (.bool (withinB n lo hi)) ∧ w = w' := by
  by_cases h1 : lo ≤ n
  · by_cases h2 : n ≤ hi
    · rw [show withinB n lo hi = true from by simp [withinB, h1, h2]]
      go_enter Tryz.func127, Tryz.ntmps127
      go_wp2_with fail
      go_ret
      exact ⟨rfl, rfl⟩
    · rw [show withinB n lo hi = false from by simp [withinB, h1, h2]]
      have d2 : decide (n ≤ hi) = false := by simpa using h2
      go_enter Tryz.func127, Tryz.ntmps127
      go_wp2_with fail
      go_ret
      exact ⟨rfl, rfl⟩
  · rw [show withinB n lo hi = false from by simp [withinB, h1]]
    have d1 : decide (lo ≤ n) = false := by simpa using h1
    go_enter Tryz.func127, Tryz.ntmps127
    go_wp2_with fail
    go_ret
    exact ⟨rfl, rfl⟩

/-- bit 31 - i of a word -/
def bitI (x : Int) (i : Nat) : Int := x / 2 ^ (31 - i) % 2

theorem and_one (x : Int) (h0 : 0 ≤ x) (h1 : x < 4294967296) : bits BinOp.and IntKind.u32 x 1 = x % 2 := by
  obtain ⟨x, rfl⟩ := Int.eq_ofNat_of_zero_le h0
  have := (bits_nat .u32 32 (by decide) wraps_u32 x 1 (by omega) (by omega)).1
  rw [show ((1 : Nat) : Int) = 1 from rfl] at this
  rw [this, Nat.and_one_is_mod]; omega

theorem two_pow_cast (k : Nat) : (2 : Int) ^ k = ((2 ^ k : Nat) : Int) := by simp
theorem bit_and (x : Int) (i : Nat) (h0 : 0 ≤ x) (h1 : x < 4294967296) : bits BinOp.and IntKind.u32 (x / 2 ^ (31 - i)) 1 = bitI x i := by
  unfold bitI
  obtain ⟨x, rfl⟩ := Int.eq_ofNat_of_zero_le h0
  rw [two_pow_cast, ← Int.natCast_ediv]
  have h2 := Nat.div_le_self x (2 ^ (31 - i))
  generalize x / 2 ^ (31 - i) = y at h2 ⊢
  exact and_one (y : Int) (by omega) (by omega)
theorem bitI_01 (x : Int) (i : Nat) : bitI x i = 0 ∨ bitI x i = 1 := by unfold bitI; omega

/-- all bits from n to i - 1 are 0 -/
def zeros (x : Int) (n i : Nat) : Prop := ∀ j, n ≤ j → j < i → bitI x j = 0

theorem fits_iff (x : Nat) (n : Nat) (hn : n ≤ 32) : (∀ j, n ≤ j → j < 32 → x / 2 ^ (31 - j) % 2 = 0) ↔ x % 2 ^ (32 - n) = 0 := by
  constructor
  · intro h
    have : x % 2 ^ (32 - n) = 0 := by
      apply Nat.eq_of_testBit_eq
      intro i
      rw [Nat.testBit_mod_two_pow, Nat.zero_testBit]
      by_cases c : i < 32 - n
      · have := h (31 - i) (by omega) (by omega)
        rw [show 31 - (31 - i) = i from by omega] at this
        rw [Nat.testBit_eq_decide_div_mod_eq, this]; simp
      · simp [c]
    exact this
  · intro h j h1 h2
    have : (x % 2 ^ (32 - n)).testBit (31 - j) = false := by rw [h]; simp
    rw [Nat.testBit_mod_two_pow] at this
    rw [Nat.testBit_eq_decide_div_mod_eq] at this
    simp [show 31 - j < 32 - n from by omega] at this
    omega

theorem fits_valid (x n : Int) (h0 : 0 ≤ n) (h1 : n ≤ 32) (x0 : 0 ≤ x) (x1 : x < 4294967296) : zeros x n.toNat 32 ↔ validP ⟨x, n⟩ = true := by
  obtain ⟨x, rfl⟩ := Int.eq_ofNat_of_zero_le x0
  obtain ⟨n, rfl⟩ := Int.eq_ofNat_of_zero_le h0
  have key := fits_iff x n (by omega)
  have e1 : zeros (x : Int) ((n : Int)).toNat 32 ↔ ∀ j, n ≤ j → j < 32 → x / 2 ^ (31 - j) % 2 = 0 := by
    unfold zeros bitI
    simp only [Int.toNat_natCast, two_pow_cast]
    constructor
    · intro h j h1 h2; have := h j h1 h2; rw [← Int.natCast_ediv] at this; omega
    · intro h j h1 h2; have := h j h1 h2; rw [← Int.natCast_ediv]; omega
  rw [e1, key]
  unfold validP keepI
  simp only [Bool.and_eq_true, decide_eq_true_eq]
  rw [show (32 - (n : Int)).toNat = 32 - n from by omega]
  have := Nat.mod_le x (2 ^ (32 - n))
  generalize 2 ^ (32 - n) = m at *
  constructor
  · intro h; exact ⟨⟨by omega, by omega⟩, by omega⟩
  · intro h; omega

def fitsB (x n : Int) : Bool := validP ⟨x, n⟩

set_option maxHeartbeats 1000000 in
theorem fits_calls (x n : Int) (x0 : 0 ≤ x) (x1 : x < 4294967296) (w : World) : Calls Tryz.prog 26 #[.int .u32 x, .int .i64 n] w fun e w' => e = .returned (.bool (fitsB x n)) ∧ w = w' := by
  by_cases h0 : 0 ≤ n
  · by_cases h1 : n ≤ 32
    · have V := Lib.hid (fits_valid x n h0 h1 x0 x1)
      obtain ⟨m, rfl⟩ := Int.eq_ofNat_of_zero_le h0
      simp only [Int.toNat_natCast] at V
      have hm : m ≤ 32 := by omega
      clear h0 h1
      go_enter Tryz.func26, Tryz.ntmps26
      go_wp2_with fail
      go_loop [5] (fun i => ∃ k : Nat, i = .int .i64 k ∧ m ≤ k ∧ k ≤ 32 ∧ Hid (zeros x m k)) (fun i => 32 - (intOf i).toNat)
      case atStart => exact ⟨m, rfl, Nat.le_refl _, hm, Lib.hid (fun j h1 h2 => by omega)⟩
      case round =>
        obtain ⟨k, rfl, hmk, hk, Z⟩ := hrel
        by_cases c : k < 32
        · have eb : bits BinOp.and IntKind.u32 (x / 2 ^ (31 - k)) 1 = bitI x k := bit_and x k x0 x1
          rcases bitI_01 x k with hb | hb
          · rw [hb] at eb
            have NX : Hid (zeros x m (k + 1)) := Lib.hid (fun j h1 h2 => by
              rcases Nat.lt_or_ge j k with h | h
              · exact Z.out j h1 h
              · rw [show j = k from by omega]; exact hb)
            clear hb
            go_wp2_with fail
            go_round
            case rel => exact ⟨k + 1, by go_num, by omega, c, NX⟩
            case measure => simp [intOf]; omega
          · rw [hb] at eb
            have NX : Hid (fitsB x m = false) := Lib.hid (by
              cases hv : fitsB x m with
              | false => rfl
              | true => have := V.out.2 hv k hmk c; rw [hb] at this; cases this)
            clear hb
            go_wp2_with fail
            go_returns
            exact ⟨by rw [NX.out]; rfl, rfl⟩
        · have F : Hid (fitsB x m = true) := Lib.hid (V.out.1 (by rw [show 32 = k from by omega]; exact Z.out))
          go_wp2_with fail
          go_ret
          exact ⟨by rw [F.out]; rfl, rfl⟩
    · have F : Hid (fitsB x n = false) := Lib.hid (by simp [fitsB, validP, h1])
      go_enter Tryz.func26, Tryz.ntmps26
      go_wp2_with fail
      go_ret
      exact ⟨by rw [F.out]; rfl, rfl⟩
  · have F : Hid (fitsB x n = false) := Lib.hid (by simp [fitsB, validP, h0])
    go_enter Tryz.func26, Tryz.ntmps26
    go_wp2_with fail
    go_ret
    exact ⟨by rw [F.out]; rfl, rfl⟩

end Go.Proofs.YtombnejipaoinaaGreat
