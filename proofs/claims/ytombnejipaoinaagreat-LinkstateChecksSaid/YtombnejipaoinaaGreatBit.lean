/-
  bits.Mask, bits.Keep; prefix.Valid, of, Make, Contains, Compare.
-/
import Derived.Test.YtombnejipaoinaaGreatLeaf
import Derived.Laws.BitsLemmas
import Derived.Laws.StructEq
import Derived.Deep.RegionWith
import Derived.Shelf.SlSortCmp.QuietGrown
import Derived.Lib.EndianBits
namespace Go.Proofs.YtombnejipaoinaaGreat
open Go.RowKit

theorem and_mask (x k : Nat) (hx : x < 2 ^ 32) (hk : k ≤ 32) : x &&& (2 ^ 32 - 2 ^ k) = x - x % 2 ^ k := by
  have e1 : 2 ^ 32 - 2 ^ k = (2 ^ (32 - k) - 1) <<< k := by
    rw [Nat.shiftLeft_eq, Nat.sub_mul, Nat.one_mul, ← Nat.pow_add, Nat.sub_add_cancel hk]
  have e2 : x - x % 2 ^ k = (x >>> k) <<< k := by
    rw [Nat.shiftLeft_eq, Nat.shiftRight_eq_div_pow]
    have := Nat.div_add_mod' x (2 ^ k)
    omega
  rw [e1, e2]
  apply Nat.eq_of_testBit_eq
  intro i
  rw [Nat.testBit_and, Nat.testBit_shiftLeft, Nat.testBit_shiftLeft, Nat.testBit_two_pow_sub_one, Nat.testBit_shiftRight]
  by_cases c : k ≤ i
  · rw [show k + (i - k) = i from by omega]
    by_cases d : i < 32
    · simp [c, show i - k < 32 - k from by omega]
    · have : x.testBit i = false := Nat.testBit_lt_two_pow (Nat.lt_of_lt_of_le hx (Nat.pow_le_pow_right (by decide) (by omega)))
      simp [this]
  · simp [c]

theorem mask_num : ∀ k : Nat, k < 33 → 4294967295 * 2 ^ k % 4294967296 = 2 ^ 32 - 2 ^ k := by decide

/-- the first n bits -/
def keepI (x n : Int) : Int := x - x % ((2 ^ (32 - n).toNat : Nat) : Int)

theorem keep_bits (x n : Int) (h0 : 0 ≤ n) (h1 : n ≤ 32) (hx : 0 ≤ x) (hx2 : x < 4294967296) : bits BinOp.and IntKind.u32 x (4294967295 * 2 ^ (32 - n).toNat % 4294967296) = keepI x n := by
  obtain ⟨x, rfl⟩ := Int.eq_ofNat_of_zero_le hx
  have hk : (32 - n).toNat < 33 := by omega
  have hm := mask_num (32 - n).toNat hk
  generalize hkk : (32 - n).toNat = k at *
  unfold keepI
  rw [hkk]
  have e : (4294967295 * 2 ^ k % 4294967296 : Int) = ((2 ^ 32 - 2 ^ k : Nat) : Int) := by rw [← hm]; simp
  rw [e]
  have h32 : (2 : Nat) ^ k ≤ 2 ^ 32 := Nat.pow_le_pow_right (by decide) (by omega)
  have hp : 0 < (2 : Nat) ^ k := Nat.two_pow_pos k
  rw [(bits_nat .u32 32 (by decide) wraps_u32 x (2 ^ 32 - 2 ^ k) (by omega) (by omega)).1, and_mask x k (by omega) (by omega)]
  have := Nat.mod_le x (2 ^ k)
  omega

set_option maxHeartbeats 800000 in
set_option maxRecDepth 100000 in
theorem mask_calls (n : Int) (h0 : 0 ≤ n) (h1 : n ≤ 32) (w : World) : Calls Tryz.prog 130 #[.int .i64 n] w fun e w' => e = .returned (.int .u32 (4294967295 * 2 ^ (32 - n).toNat % 4294967296)) ∧ w = w' := by
  go_enter Tryz.func130, Tryz.ntmps130
  go_wp2
  go_ret
  exact ⟨rfl, rfl⟩

set_option maxHeartbeats 800000 in
set_option maxRecDepth 100000 in
theorem keep_calls (x n : Int) (h0 : 0 ≤ n) (h1 : n ≤ 32) (hx : 0 ≤ x) (hx2 : x < 4294967296) (w : World) : Calls Tryz.prog 50 #[.int .u32 x, .int .i64 n] w fun e w' => e = .returned (.int .u32 (keepI x n)) ∧ w = w' := by
  have E := Lib.hid (keep_bits x n h0 h1 hx hx2)
  go_enter Tryz.func50, Tryz.ntmps50
  go_wp2_with fail
  refine (mask_calls n h0 h1 w).mono ?_
  rintro e w' ⟨rfl, rfl⟩
  generalize (4294967295 * 2 ^ (32 - n).toNat % 4294967296 : Int) = m at *
  go_wp2_with fail
  go_ret
  exact ⟨by rw [E.out]; rfl, rfl⟩

theorem Gr.of_grow {W : World} (n : Nat) (os : Array Obj) : Gr W (Go.Sort.grow (W.drewN n) os) :=
  ⟨⟨rfl, rfl, rfl, by simp [Go.Sort.grow, World.drewN], fun k hk => by show (W.heap ++ os)[k]? = _; rw [Array.getElem?_append_left hk]⟩, Nat.le_add_right _ _⟩

theorem quiet1 {P : Program} {f : FuncId} {args : Array Value} {w : World} {n : Nat} {v : Value} (h : ∀ W, Calls P f args W fun e w' => e = .returned v ∧ W = w') : Calls P f args (w.drewN n) fun e w'' => e = .returned v ∧ ∃ m, w'' = w.drewN m :=
  (h _).mono fun _ _ ⟨he, hm⟩ => ⟨he, n, hm.symm⟩
theorem beq_dec (a b : Int) : (a == b) = decide (a = b) := by rw [Bool.eq_iff_iff]; simp

/-- valid prefixes -/
def validP (p : Ls.Pfx) : Bool := decide (0 ≤ p.len) && decide (p.len ≤ 32) && decide (keepI p.addr p.len = p.addr)

structure OkP (p : Ls.Pfx) : Prop where
  a0 : 0 ≤ p.addr
  a1 : p.addr < 4294967296

set_option maxHeartbeats 800000 in
theorem valid_calls (p : Ls.Pfx) (ok : OkP p) (w : World) : Calls Tryz.prog 20 #[.agg #[.int .u32 p.addr, .int .i64 p.len]] w fun e w' => e = .returned (.bool (validP p)) ∧ Gr w w' := by
  obtain ⟨a, n⟩ := p
  obtain ⟨a0, a1⟩ := ok
  simp only at a0 a1
  unfold validP
  simp only
  by_cases h0 : 0 ≤ n
  · by_cases h1 : n ≤ 32
    · have d1 : decide (0 ≤ n) = true := by simpa using h0
      have d2 : decide (n ≤ 32) = true := by simpa using h1
      rw [d1, d2, Bool.true_and, Bool.true_and]
      have HC := Lib.hid (fun W => keep_calls a n h0 h1 a0 a1 W)
      generalize keepI a n = k at HC ⊢
      go_enter Tryz.func20, Tryz.ntmps20
      go_wp2_with fail
      go_quiet ((go_at_call 50; exact quiet1 HC.out))
      go_wp2_with fail
      go_ret
      exact ⟨rfl, ((Gr.refl _).alloc _).drewN _⟩
    · have d1 : decide (0 ≤ n) = true := by simpa using h0
      have d2 : decide (n ≤ 32) = false := by simpa using h1
      rw [d1, d2, Bool.true_and, Bool.false_and]
      go_enter Tryz.func20, Tryz.ntmps20
      go_wp2_with fail
      go_quiet (fail)
      go_wp2_with fail
      go_ret
      exact ⟨rfl, ((Gr.refl _).alloc _).drewN _⟩
  · have d1 : decide (0 ≤ n) = false := by simpa using h0
    rw [d1, Bool.false_and, Bool.false_and]
    go_enter Tryz.func20, Tryz.ntmps20
    go_wp2_with fail
    go_quiet (fail)
    go_wp2_with fail
    go_ret
    exact ⟨rfl, ((Gr.refl _).alloc _).drewN _⟩

set_option maxHeartbeats 800000 in
theorem of_calls (a n : Int) (h0 : 0 ≤ n) (h1 : n ≤ 32) (a0 : 0 ≤ a) (a1 : a < 4294967296) (w : World) : Calls Tryz.prog 184 #[.int .u32 a, .int .i64 n] w fun e w' => e = .returned (.agg #[.int .u32 (keepI a n), .int .i64 n]) ∧ Gr w w' := by
  have HC := Lib.hid (fun W => keep_calls a n h0 h1 a0 a1 W)
  generalize keepI a n = k at HC ⊢
  go_enter Tryz.func184, Tryz.ntmps184
  go_wp2_with fail
  refine (HC.out _).mono ?_
  rintro e w' ⟨rfl, rfl⟩
  go_wp2_with fail
  exact bodyPost_ret (v := .agg #[.int .u32 k, .int .i64 n]) (by simp [results, Tryz.results184, go_sem]) rfl ⟨rfl, by repeat (first | exact Gr.refl _ | refine Gr.drew ?_ | refine Gr.alloc ?_ _ | refine Gr.drewN ?_ _)⟩

set_option maxHeartbeats 800000 in
theorem make_calls (a n : Int) (h0 : 0 ≤ n) (h1 : n ≤ 32) (a0 : 0 ≤ a) (a1 : a < 4294967296) (w : World) : Calls Tryz.prog 323 #[.int .u32 a, .int .i64 n] w fun e w' => e = .returned (.tuple #[.agg #[.int .u32 (keepI a n), .int .i64 n], .int .i64 0]) ∧ Gr w w' := by
  have HC := Lib.hid (fun W => of_calls a n h0 h1 a0 a1 W)
  generalize keepI a n = k at HC ⊢
  go_enter Tryz.func323, Tryz.ntmps323
  go_wp2_with fail
  refine (HC.out _).mono ?_
  rintro e w1 ⟨rfl, G⟩
  have G0 : Gr w w1 := ((Gr.refl w).alloc _).trans G
  have c0 : w1.cell? ⟨w.heap.size, 0, none⟩ = some (.int .u32 0) := bcell G.b (blk_cell (alloc_new w _) rfl)
  have c1 : w1.cell? ⟨w.heap.size, 1, none⟩ = some (.int .i64 0) := bcell G.b (blk_cell (alloc_new w _) rfl)
  have f0 : w1.frozen? ⟨w.heap.size, 0, none⟩ = false := blk_free ((G.b.block w.heap.size (by simp)).trans (alloc_new w _)) 0
  have f1 : w1.frozen? ⟨w.heap.size, 1, none⟩ = false := blk_free ((G.b.block w.heap.size (by simp)).trans (alloc_new w _)) 1
  have hs : w.heap.size < w1.heap.size := by have := G.b.size; simp at this; omega
  clear G
  go_wp2_with fail
  exact bodyPost_ret (v := .tuple #[.agg #[.int .u32 k, .int .i64 n], .int .i64 0]) (by simp [results, Tryz.results323, go_sem, c0, c1]) rfl ⟨rfl, (G0.setCell (Nat.le_refl _) _).setCell (Nat.le_refl _) _⟩

theorem eqPfx (x y : Ls.Pfx) (w : World) : (binOp .eql 68 (.agg #[.int .u32 x.addr, .int .i64 x.len]) (.agg #[.int .u32 y.addr, .int .i64 y.len])).run Tryz.prog w = .ok (.bool (decide (x = y))) w := by
  have u3 := Tryz.underlying3
  have u23 := Tryz.underlying41
  have a3 := Tryz.isAgg3
  have z3 := Tryz.sizeOf3
  have a23 := Tryz.isAgg41
  have z23 := Tryz.sizeOf41
  have hS : Tryz.prog.underlying 68 = some (.struct (Tryz.prog.fieldsOf 68)) := by kernel_rfl
  have hp : Tryz.prog.stoodInHeld 68 = false := by kernel_rfl
  obtain ⟨x1, x2⟩ := x
  obtain ⟨y1, y2⟩ := y
  rw [run_eql_struct, show (10000 : Nat) = 9999 + 1 from rfl, run_equalIn_agg w 9999 68 _ _ hS hp]
  simp only [Program.fieldsOf, Tryz.underlying68]
  go_simp
  by_cases h1 : x1 = y1 <;> by_cases h2 : x2 = y2 <;> simp [h1, h2]

def pfxE (p : Ls.Pfx) : List Value := [.int .u32 p.addr, .int .i64 p.len]

/-- does p contain a? -/
def containsP (p : Ls.Pfx) (a : Int) : Bool := validP p && decide (keepI a p.len = p.addr)

theorem validP_len {p : Ls.Pfx} (h : validP p = true) : 0 ≤ p.len ∧ p.len ≤ 32 := by
  simp [validP] at h; exact ⟨h.1.1, h.1.2⟩

set_option maxHeartbeats 1000000 in
theorem contains_calls (p : Ls.Pfx) (ok : OkP p) (a : Int) (a0 : 0 ≤ a) (a1 : a < 4294967296) (w : World) : Calls Tryz.prog 128 #[.agg #[.int .u32 p.addr, .int .i64 p.len], .int .u32 a] w fun e w' => e = .returned (.bool (containsP p a)) ∧ Gr w w' := by
  unfold containsP
  have V := Lib.hid (fun W => valid_calls p ok W)
  cases hv : validP p with
  | true =>
    obtain ⟨l0, l1⟩ := validP_len hv
    rw [hv] at V
    have OF := Lib.hid (fun W => of_calls a p.len l0 l1 a0 a1 W)
    have E := fun W => eqPfx ⟨keepI a p.len, p.len⟩ p W
    have ED : decide ((⟨keepI a p.len, p.len⟩ : Ls.Pfx) = p) = decide (keepI a p.len = p.addr) := by
      obtain ⟨x, y⟩ := p; simp
    rw [ED] at E
    simp only at E
    rw [Bool.true_and]
    clear hv ED
    generalize decide (keepI a p.len = p.addr) = r at E ⊢
    generalize keepI a p.len = k at OF E
    obtain ⟨pa, pl⟩ := p
    simp only at *
    go_enter Tryz.func128, Tryz.ntmps128
    go_wp2_with fail
    have x1 := blk_cell (i := 0) (alloc_new w (.cells #[.int .u32 pa, .int .i64 pl] 68)) rfl
    have x2 := blk_cell (i := 1) (alloc_new w (.cells #[.int .u32 pa, .int .i64 pl] 68)) rfl
    go_region_held3 (fun W' => W'.cell? ⟨w.heap.size, 0, none⟩ = some (.int .u32 pa) ∧ W'.cell? ⟨w.heap.size, 1, none⟩ = some (.int .i64 pl)) (first | exact ⟨x1, x2⟩ | exact ⟨y1, y2⟩ | exact ⟨z1, z2⟩)
      (first
      | (go_at_call 20; refine (V.out _).mono ?_; rintro e w1 ⟨rfl, G1⟩; have y1 := bcell G1.b x1; have y2 := bcell G1.b x2)
      | (go_at_call 184; refine (OF.out _).mono ?_; rintro e w2 ⟨rfl, G2⟩; have z1 := bcell G2.b y1; have z2 := bcell G2.b y2))
    go_wp2_with fail
    go_ret
    exact ⟨rfl, (((Gr.refl w).alloc _).trans ((Gr.refl _).drew.trans G1)).trans G2⟩
  | false =>
    rw [hv] at V
    rw [Bool.false_and]
    clear hv
    obtain ⟨pa, pl⟩ := p
    simp only at *
    go_enter Tryz.func128, Tryz.ntmps128
    go_wp2_with fail
    have mixed : Tryz.prog.follows .mixedOrders = true := by kernel_rfl
    have x1 := blk_cell (i := 0) (alloc_new w (.cells #[.int .u32 pa, .int .i64 pl] 68)) rfl
    have x2 := blk_cell (i := 1) (alloc_new w (.cells #[.int .u32 pa, .int .i64 pl] 68)) rfl
    have G0 := (Gr.refl w).alloc (.cells #[.int .u32 pa, .int .i64 pl] 68)
    have hs : w.heap.size < (w.alloc (.cells #[.int .u32 pa, .int .i64 pl] 68)).heap.size := by simp
    generalize w.alloc (.cells #[.int .u32 pa, .int .i64 pl] 68) = W0 at *
    have y1 := cell_grown (a := ⟨w.heap.size, 0, none⟩) hs x1
    have y2 := cell_grown (a := ⟨w.heap.size, 1, none⟩) hs x2
    go_quiet_grown ((go_at_call 20; exact Calls.grown_of ((V.out _).mono fun _ _ ⟨he, hg⟩ => ⟨he, hg.grow⟩)))
    go_wp2_with fail
    go_ret
    exact ⟨rfl, G0.trans (Gr.of_grow _ _)⟩

end Go.Proofs.YtombnejipaoinaaGreat
