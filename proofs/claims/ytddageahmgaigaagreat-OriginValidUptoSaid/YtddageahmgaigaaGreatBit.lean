import Derived.Test.YtddageahmgaigaaGreatLeaf
import Derived.Laws.BitsLemmas
import Derived.Laws.StructEq
import Derived.Deep.RegionWith
import Derived.Shelf.SlSortCmp.QuietGrown
import Derived.Lib.EndianBits
namespace Go.Proofs.YtddageahmgaigaaGreat
open Go.RowKit

theorem and_mask (x k : Nat) (hx : x < 2 ^ 32) (hk : k ≤ 32) : x &&& (2 ^ 32 - 2 ^ k) = x - x % 2 ^ k := by
  have e1 : 2 ^ 32 - 2 ^ k = (2 ^ (32 - k) - 1) <<< k := by
    rw [Nat.shiftLeft_eq, Nat.sub_mul, Nat.one_mul, ← Nat.pow_add, Nat.sub_add_cancel hk]
  have e2 : x - x % 2 ^ k = (x >>> k) <<< k := by
    rw [Nat.shiftLeft_eq, Nat.shiftRight_eq_div_pow]
    have := Nat.div_add_mod' x (2 ^ k)
    omega
  rw [e1, e2]
  apply Nat.eq_of_testBit_eq
  intro i
  rw [Nat.testBit_and, Nat.testBit_shiftLeft, Nat.testBit_shiftLeft, Nat.testBit_two_pow_sub_one, Nat.testBit_shiftRight]
  by_cases c : k ≤ i
  · rw [show k + (i - k) = i from by omega]
    by_cases d : i < 32
    · simp [c, show i - k < 32 - k from by omega]
    · have : x.testBit i = false := Nat.testBit_lt_two_pow (Nat.lt_of_lt_of_le hx (Nat.pow_le_pow_right (by decide) (by omega)))
      simp [this]
  · simp [c]

theorem mask_num : ∀ k : Nat, k < 33 → 4294967295 * 2 ^ k % 4294967296 = 2 ^ 32 - 2 ^ k := by decide

def keepI (x n : Int) : Int := x - x % ((2 ^ (32 - n).toNat : Nat) : Int)

theorem keep_bits (x n : Int) (h0 : 0 ≤ n) (h1 : n ≤ 32) (hx : 0 ≤ x) (hx2 : x < 4294967296) : bits BinOp.and IntKind.u32 x (4294967295 * 2 ^ (32 - n).toNat % 4294967296) = keepI x n := by
  obtain ⟨x, rfl⟩ := Int.eq_ofNat_of_zero_le hx
  have hk : (32 - n).toNat < 33 := by omega
  have hm := mask_num (32 - n).toNat hk
  generalize hkk : (32 - n).toNat = k at *
  unfold keepI
  rw [hkk]
  have e : (4294967295 * 2 ^ k % 4294967296 : Int) = ((2 ^ 32 - 2 ^ k : Nat) : Int) := by rw [← hm]; simp
  rw [e]
  have h32 : (2 : Nat) ^ k ≤ 2 ^ 32 := Nat.pow_le_pow_right (by decide) (by omega)
  have hp : 0 < (2 : Nat) ^ k := Nat.two_pow_pos k
  rw [(bits_nat .u32 32 (by decide) wraps_u32 x (2 ^ 32 - 2 ^ k) (by omega) (by omega)).1, and_mask x k (by omega) (by omega)]
  have := Nat.mod_le x (2 ^ k)
  omega

set_option maxHeartbeats 800000 in
set_option maxRecDepth 100000 in
theorem mask_calls (n : Int) (h0 : 0 ≤ n) (h1 : n ≤ 32) (w : World) : Calls Tryz.prog 182 #[.int .i64 n] w fun e w' => e = .returned (.int .u32 (4294967295 * 2 ^ (32 - n).toNat % 4294967296)) ∧ w = w' := by
  go_enter Tryz.func182, Tryz.ntmps182
  go_wp2
  go_ret
  exact ⟨rfl, rfl⟩

set_option maxHeartbeats 800000 in
set_option maxRecDepth 100000 in
theorem keep_calls (x n : Int) (h0 : 0 ≤ n) (h1 : n ≤ 32) (hx : 0 ≤ x) (hx2 : x < 4294967296) (w : World) : Calls Tryz.prog 173 #[.int .u32 x, .int .i64 n] w fun e w' => e = .returned (.int .u32 (keepI x n)) ∧ w = w' := by
  have E := Lib.hid (keep_bits x n h0 h1 hx hx2)
  go_enter Tryz.func173, Tryz.ntmps173
  go_wp2_with fail
  refine (mask_calls n h0 h1 w).mono ?_
  rintro e w' ⟨rfl, rfl⟩
  generalize (4294967295 * 2 ^ (32 - n).toNat % 4294967296 : Int) = m at *
  go_wp2_with fail
  go_ret
  exact ⟨by rw [E.out]; rfl, rfl⟩

theorem Gr.of_grow {W : World} (n : Nat) (os : Array Obj) : Gr W (Go.Sort.grow (W.drewN n) os) :=
  ⟨⟨rfl, rfl, rfl, by simp [Go.Sort.grow, World.drewN], fun k hk => by show (W.heap ++ os)[k]? = _; rw [Array.getElem?_append_left hk]⟩, Nat.le_add_right _ _⟩

theorem quiet1 {P : Program} {f : FuncId} {args : Array Value} {w : World} {n : Nat} {v : Value} (h : ∀ W, Calls P f args W fun e w' => e = .returned v ∧ W = w') : Calls P f args (w.drewN n) fun e w'' => e = .returned v ∧ ∃ m, w'' = w.drewN m :=
  (h _).mono fun _ _ ⟨he, hm⟩ => ⟨he, n, hm.symm⟩

def validP (p : Ls.Pfx) : Bool := decide (0 ≤ p.len) && decide (p.len ≤ 32) && decide (keepI p.addr p.len = p.addr)

structure OkP (p : Ls.Pfx) : Prop where
  a0 : 0 ≤ p.addr
  a1 : p.addr < 4294967296

set_option maxHeartbeats 800000 in
theorem valid_calls (p : Ls.Pfx) (ok : OkP p) (w : World) : Calls Tryz.prog 152 #[.agg #[.int .u32 p.addr, .int .i64 p.len]] w fun e w' => e = .returned (.bool (validP p)) ∧ Gr w w' := by
  obtain ⟨a, n⟩ := p
  obtain ⟨a0, a1⟩ := ok
  simp only at a0 a1
  unfold validP
  simp only
  by_cases h0 : 0 ≤ n
  · by_cases h1 : n ≤ 32
    · have d1 : decide (0 ≤ n) = true := by simpa using h0
      have d2 : decide (n ≤ 32) = true := by simpa using h1
      rw [d1, d2, Bool.true_and, Bool.true_and]
      have HC := Lib.hid (fun W => keep_calls a n h0 h1 a0 a1 W)
      generalize keepI a n = k at HC ⊢
      go_enter Tryz.func152, Tryz.ntmps152
      go_wp2_with fail
      go_quiet ((go_at_call 173; exact quiet1 HC.out))
      go_wp2_with fail
      go_ret
      exact ⟨rfl, ((Gr.refl _).alloc _).drewN _⟩
    · have d1 : decide (0 ≤ n) = true := by simpa using h0
      have d2 : decide (n ≤ 32) = false := by simpa using h1
      rw [d1, d2, Bool.true_and, Bool.false_and]
      go_enter Tryz.func152, Tryz.ntmps152
      go_wp2_with fail
      go_quiet (fail)
      go_wp2_with fail
      go_ret
      exact ⟨rfl, ((Gr.refl _).alloc _).drewN _⟩
  · have d1 : decide (0 ≤ n) = false := by simpa using h0
    rw [d1, Bool.false_and, Bool.false_and]
    go_enter Tryz.func152, Tryz.ntmps152
    go_wp2_with fail
    go_quiet (fail)
    go_wp2_with fail
    go_ret
    exact ⟨rfl, ((Gr.refl _).alloc _).drewN _⟩

def pfxE (p : Ls.Pfx) : List Value := [.int .u32 p.addr, .int .i64 p.len]

def containsP (p : Ls.Pfx) (a : Int) : Bool := validP p && decide (keepI a p.len = p.addr)

end Go.Proofs.YtddageahmgaigaaGreat

namespace Go.Proofs.YtddageahmgaigaaGreat
open Go.RowKit

set_option maxHeartbeats 400000 in
theorem numbers_calls (a b : Int) (w : World) : Calls Tryz.prog 96 #[.int .i64 a, .int .i64 b] w fun e w' => e = .returned (.int .i64 (cmpI a b)) ∧ w = w' := by
  by_cases h1 : a < b
  · rw [cmpI_lt h1]
    go_enter Tryz.func96, Tryz.ntmps96
    go_wp2
    go_ret
    exact ⟨rfl, rfl⟩
  · by_cases h2 : b < a
    · rw [cmpI_gt h2]
      go_enter Tryz.func96, Tryz.ntmps96
      go_wp2
      go_ret
      exact ⟨rfl, rfl⟩
    · rw [cmpI_eq (by omega)]
      go_enter Tryz.func96, Tryz.ntmps96
      go_wp2
      go_ret
      exact ⟨rfl, rfl⟩

end Go.Proofs.YtddageahmgaigaaGreat

namespace Go.Proofs.YtddageahmgaigaaGreat
open Go.RowKit

def withinB (n lo hi : Int) : Bool := decide (lo ≤ n) && decide (n ≤ hi)

set_option maxHeartbeats 400000 in
theorem within_calls (n lo hi : Int) (w : World) : Calls Tryz.prog 74 #[.int .i64 n, .int .i64 lo, .int .i64 hi] w fun e w' => e = .returned (.bool (withinB n lo hi)) ∧ w = w' := by
  by_cases h1 : lo ≤ n
  · by_cases h2 : n ≤ hi
    · rw [show withinB n lo hi = true from by simp [withinB, h1, h2]]
      go_enter Tryz.func74, Tryz.ntmps74
      go_wp2_with fail
      go_ret
      exact ⟨rfl, rfl⟩
    · rw [show withinB n lo hi = false from by simp [withinB, h1, h2]]
      have d2 : decide (n ≤ hi) = false := by simpa using h2
      go_enter Tryz.func74, Tryz.ntmps74
      go_wp2_with fail
      go_ret
      exact ⟨rfl, rfl⟩
  · rw [show withinB n lo hi = false from by simp [withinB, h1]]
    have d1 : decide (lo ≤ n) = false := by simpa using h1
    go_enter Tryz.func74, Tryz.ntmps74
    go_wp2_with fail
    go_ret
    exact ⟨rfl, rfl⟩

def bitI (x : Int) (i : Nat) : Int := x / 2 ^ (31 - i) % 2

theorem and_one (x : Int) (h0 : 0 ≤ x) (h1 : x < 4294967296) : bits BinOp.and IntKind.u32 x 1 = x % 2 := by
  obtain ⟨x, rfl⟩ := Int.eq_ofNat_of_zero_le h0
  have := (bits_nat .u32 32 (by decide) wraps_u32 x 1 (by omega) (by omega)).1
  rw [show ((1 : Nat) : Int) = 1 from rfl] at this
  rw [this, Nat.and_one_is_mod]; omega

theorem two_pow_cast (k : Nat) : (2 : Int) ^ k = ((2 ^ k : Nat) : Int) := by simp
theorem bit_and (x : Int) (i : Nat) (h0 : 0 ≤ x) (h1 : x < 4294967296) : bits BinOp.and IntKind.u32 (x / 2 ^ (31 - i)) 1 = bitI x i := by
  unfold bitI
  obtain ⟨x, rfl⟩ := Int.eq_ofNat_of_zero_le h0
  rw [two_pow_cast, ← Int.natCast_ediv]
  have h2 := Nat.div_le_self x (2 ^ (31 - i))
  generalize x / 2 ^ (31 - i) = y at h2 ⊢
  exact and_one (y : Int) (by omega) (by omega)
theorem bitI_01 (x : Int) (i : Nat) : bitI x i = 0 ∨ bitI x i = 1 := by unfold bitI; omega

def zeros (x : Int) (n i : Nat) : Prop := ∀ j, n ≤ j → j < i → bitI x j = 0

theorem fits_iff (x : Nat) (n : Nat) (hn : n ≤ 32) : (∀ j, n ≤ j → j < 32 → x / 2 ^ (31 - j) % 2 = 0) ↔ x % 2 ^ (32 - n) = 0 := by
  constructor
  · intro h
    have : x % 2 ^ (32 - n) = 0 := by
      apply Nat.eq_of_testBit_eq
      intro i
      rw [Nat.testBit_mod_two_pow, Nat.zero_testBit]
      by_cases c : i < 32 - n
      · have := h (31 - i) (by omega) (by omega)
        rw [show 31 - (31 - i) = i from by omega] at this
        rw [Nat.testBit_eq_decide_div_mod_eq, this]; simp
      · simp [c]
    exact this
  · intro h j h1 h2
    have : (x % 2 ^ (32 - n)).testBit (31 - j) = false := by rw [h]; simp
    rw [Nat.testBit_mod_two_pow] at this
    rw [Nat.testBit_eq_decide_div_mod_eq] at this
    simp [show 31 - j < 32 - n from by omega] at this
    omega

theorem fits_valid (x n : Int) (h0 : 0 ≤ n) (h1 : n ≤ 32) (x0 : 0 ≤ x) (x1 : x < 4294967296) : zeros x n.toNat 32 ↔ validP ⟨x, n⟩ = true := by
  obtain ⟨x, rfl⟩ := Int.eq_ofNat_of_zero_le x0
  obtain ⟨n, rfl⟩ := Int.eq_ofNat_of_zero_le h0
  have key := fits_iff x n (by omega)
  have e1 : zeros (x : Int) ((n : Int)).toNat 32 ↔ ∀ j, n ≤ j → j < 32 → x / 2 ^ (31 - j) % 2 = 0 := by
    unfold zeros bitI
    simp only [Int.toNat_natCast, two_pow_cast]
    constructor
    · intro h j h1 h2; have := h j h1 h2; rw [← Int.natCast_ediv] at this; omega
    · intro h j h1 h2; have := h j h1 h2; rw [← Int.natCast_ediv]; omega
  rw [e1, key]
  unfold validP keepI
  simp only [Bool.and_eq_true, decide_eq_true_eq]
  rw [show (32 - (n : Int)).toNat = 32 - n from by omega]
  have := Nat.mod_le x (2 ^ (32 - n))
  generalize 2 ^ (32 - n) = m at *
  constructor
  · intro h; exact ⟨⟨by omega, by omega⟩, by omega⟩
  · intro h; omega

def fitsB (x n : Int) : Bool := validP ⟨x, n⟩

set_option maxHeartbeats 1000000 in
theorem fits_calls (x n : Int) (x0 : 0 ≤ x) (x1 : x < 4294967296) (w : World) : Calls Tryz.prog 68 #[.int .u32 x, .int .i64 n] w fun e w' => e = .returned (.bool (fitsB x n)) ∧ w = w' := by
  by_cases h0 : 0 ≤ n
  · by_cases h1 : n ≤ 32
    · have V := Lib.hid (fits_valid x n h0 h1 x0 x1)
      obtain ⟨m, rfl⟩ := Int.eq_ofNat_of_zero_le h0
      simp only [Int.toNat_natCast] at V
      have hm : m ≤ 32 := by omega
      clear h0 h1
      go_enter Tryz.func68, Tryz.ntmps68
      go_wp2_with fail
      go_loop [5] (fun i => ∃ k : Nat, i = .int .i64 k ∧ m ≤ k ∧ k ≤ 32 ∧ Hid (zeros x m k)) (fun i => 32 - (intOf i).toNat)
      case atStart => exact ⟨m, rfl, Nat.le_refl _, hm, Lib.hid (fun j h1 h2 => by omega)⟩
      case round =>
        obtain ⟨k, rfl, hmk, hk, Z⟩ := hrel
        by_cases c : k < 32
        · have eb : bits BinOp.and IntKind.u32 (x / 2 ^ (31 - k)) 1 = bitI x k := bit_and x k x0 x1
          rcases bitI_01 x k with hb | hb
          · rw [hb] at eb
            have NX : Hid (zeros x m (k + 1)) := Lib.hid (fun j h1 h2 => by
              rcases Nat.lt_or_ge j k with h | h
              · exact Z.out j h1 h
              · rw [show j = k from by omega]; exact hb)
            clear hb
            go_wp2_with fail
            go_round
            case rel => exact ⟨k + 1, by go_num, by omega, c, NX⟩
            case measure => simp [intOf]; omega
          · rw [hb] at eb
            have NX : Hid (fitsB x m = false) := Lib.hid (by
              cases hv : fitsB x m with
              | false => rfl
              | true => have := V.out.2 hv k hmk c; rw [hb] at this; cases this)
            clear hb
            go_wp2_with fail
            go_returns
            exact ⟨by rw [NX.out]; rfl, rfl⟩
        · have F : Hid (fitsB x m = true) := Lib.hid (V.out.1 (by rw [show 32 = k from by omega]; exact Z.out))
          go_wp2_with fail
          go_ret
          exact ⟨by rw [F.out]; rfl, rfl⟩
    · have F : Hid (fitsB x n = false) := Lib.hid (by simp [fitsB, validP, h1])
      go_enter Tryz.func68, Tryz.ntmps68
      go_wp2_with fail
      go_ret
      exact ⟨by rw [F.out]; rfl, rfl⟩
  · have F : Hid (fitsB x n = false) := Lib.hid (by simp [fitsB, validP, h0])
    go_enter Tryz.func68, Tryz.ntmps68
    go_wp2_with fail
    go_ret
    exact ⟨by rw [F.out]; rfl, rfl⟩

end Go.Proofs.YtddageahmgaigaaGreat

namespace Go.Proofs.YtddageahmgaigaaGreat
open Go.RowKit

structure Lsa where
  typ : Int
  id : Int
  len : Int
  router : Int
  seq : Int
  age : Int
  sum : Int
  border : Bool
  boundary : Bool
  la : Option Addr
  ln : Nat
  lc : Nat
  aa : Option Addr
  an : Nat
  ac : Nat
  cost : Int
  second : Bool
  fwd : Int
  tag : Int
deriving Inhabited

def lsaE (x : Lsa) : List Value := [.int .i64 x.typ, .int .u32 x.id, .int .i64 x.len, .int .u32 x.router, .int .i64 x.seq, .int .i64 x.age, .int .i64 x.sum, .bool x.border, .bool x.boundary, .slice x.la x.ln x.lc, .slice x.aa x.an x.ac, .int .i64 x.cost, .bool x.second, .int .u32 x.fwd, .int .i64 x.tag]

structure OkL (x : Lsa) : Prop where
  id0 : 0 ≤ x.id
  id1 : x.id < 4294967296
  r0 : 0 ≤ x.router
  r1 : x.router < 4294967296
  f0 : 0 ≤ x.fwd
  f1 : x.fwd < 4294967296

def hasPfx (t : Int) : Bool := t == 2 || t == 3 || t == 5

set_option maxHeartbeats 1000000 in
theorem hasPrefix_calls (t : Int) (h : hasPfx t = true) (w : World) : Calls Tryz.prog 151 #[.int .i64 t] w fun e w' => e = .returned (.bool true) ∧ w = w' := by
  unfold hasPfx at h
  by_cases h2 : t = 2
  · subst h2; clear h
    go_enter Tryz.func151, Tryz.ntmps151
    go_wp2_with fail
    go_ret
    exact ⟨rfl, rfl⟩
  · by_cases h3 : t = 3
    · subst h3; clear h
      go_enter Tryz.func151, Tryz.ntmps151
      go_wp2_with fail
      go_ret
      exact ⟨rfl, rfl⟩
    · have h5 : t = 5 := by simp [h2, h3] at h; exact h
      subst h5; clear h
      go_enter Tryz.func151, Tryz.ntmps151
      go_wp2_with fail
      go_ret
      exact ⟨rfl, rfl⟩

theorem blk_new2 (w : World) (o o' : Obj) : ((w.alloc o).alloc o').heap[w.heap.size + 1]? = some o' := by have := alloc_new (w.alloc o) o'; simpa using this

def lsaPfx (x : Lsa) : Ls.Pfx := ⟨keepI x.id x.len, x.len⟩
end Go.Proofs.YtddageahmgaigaaGreat
