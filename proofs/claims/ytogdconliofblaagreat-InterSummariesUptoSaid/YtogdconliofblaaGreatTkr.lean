/-
  routingref23.Keep.
-/
/-
  routingref33.covers and Taker.
-/
import Derived.Test.YtogdconliofblaaGreatSea
import Derived.Test.YtogdconliofblaaGreatFir
import Derived.Test.YtogdconliofblaaGreatLsa
import Derived.IntWalk
import Derived.Deep.DeepCutAuto
namespace Go.Proofs.YtogdconliofblaaGreat
open Go.RowKit

/-- x without its bits m .. k - 1 (bit 0 is the greatest of 32) -/
def kpN (x m k : Nat) : Nat := x / 2 ^ (32 - m) * 2 ^ (32 - m) + x % 2 ^ (32 - k)
theorem kpN_lt (x m k : Nat) (hx : x < 4294967296) (hmk : m ≤ k) (_hk : k ≤ 32) : kpN x m k < 4294967296 := by
  unfold kpN
  have h1 := Nat.div_add_mod' x (2 ^ (32 - m))
  have h2 : x % 2 ^ (32 - k) ≤ x % 2 ^ (32 - m) := by
    rw [show 2 ^ (32 - m) = 2 ^ (32 - k) * 2 ^ (k - m) from by rw [← Nat.pow_add]; congr 1; omega, Nat.mod_mul]
    omega
  omega
theorem kpN_start (x m : Nat) : kpN x m m = x := Nat.div_add_mod' x _
theorem kpN_end (x m : Nat) : kpN x m 32 = x / 2 ^ (32 - m) * 2 ^ (32 - m) := by unfold kpN; simp [Nat.mod_one]
theorem kpN_step (x m k : Nat) (hmk : m ≤ k) (hk : k < 32) : kpN x m k / 2 ^ (31 - k) % 2 = x / 2 ^ (31 - k) % 2 ∧ kpN x m k = kpN x m (k + 1) + 2 ^ (31 - k) * (x / 2 ^ (31 - k) % 2) := by
  unfold kpN
  have e1 : 2 ^ (32 - k) = 2 ^ (31 - k) * 2 := by rw [← Nat.pow_succ]; congr 1; omega
  have e2 : 2 ^ (32 - m) = 2 ^ (31 - k) * (2 * 2 ^ (k - m)) := by rw [← Nat.mul_assoc, ← e1, ← Nat.pow_add]; congr 1; omega
  have e3 : 32 - (k + 1) = 31 - k := by omega
  have hP : 0 < 2 ^ (31 - k) := Nat.pow_pos (by omega)
  rw [e3, e1, e2, Nat.mod_mul]
  generalize 2 ^ (31 - k) = P at *
  generalize 2 ^ (k - m) = Q at *
  refine ⟨?_, by omega⟩
  have h1 : x / (P * (2 * Q)) * (P * (2 * Q)) + (x % P + P * (x / P % 2)) = x % P + P * (2 * (x / (P * (2 * Q)) * Q) + x / P % 2) := by
    have : x / (P * (2 * Q)) * (P * (2 * Q)) = P * (2 * (x / (P * (2 * Q)) * Q)) := by
      rw [← Nat.mul_assoc, Nat.mul_comm (x / (P * (2 * Q))) P, Nat.mul_assoc]
      congr 1
      rw [← Nat.mul_assoc, Nat.mul_comm (x / (P * (2 * Q))) 2, Nat.mul_assoc]
    rw [this, Nat.mul_add]; omega
  rw [h1, Nat.add_mul_div_left _ _ hP, Nat.div_eq_of_lt (Nat.mod_lt _ hP)]
  omega

theorem nat_emod {P : Nat} (h : P < 4294967296) : (P : Int) % 4294967296 = P := by omega

theorem and_pow (y j : Nat) : y &&& 2 ^ j = 2 ^ j * (y / 2 ^ j % 2) := by
  have hb : y.testBit j = decide (y / 2 ^ j % 2 = 1) := Nat.testBit_eq_decide_div_mod_eq
  apply Nat.eq_of_testBit_eq
  intro i
  rw [Nat.testBit_and, Nat.testBit_two_pow]
  rcases Nat.mod_two_eq_zero_or_one (y / 2 ^ j) with h | h
  · rw [h, Nat.mul_zero, Nat.zero_testBit]
    by_cases e : j = i
    · subst e; rw [hb, h]; rfl
    · simp [e]
  · rw [h, Nat.mul_one, Nat.testBit_two_pow]
    by_cases e : j = i
    · subst e; rw [hb, h]; rfl
    · simp [e]

theorem and_bit (y k : Nat) (hy : y < 4294967296) (hk : k < 32) : bits BinOp.and IntKind.u32 (y : Int) (2 ^ (31 - k) % 4294967296) = ((2 ^ (31 - k) * (y / 2 ^ (31 - k) % 2) : Nat) : Int) := by
  have hp : 2 ^ (31 - k) < 4294967296 := Nat.lt_of_le_of_lt (Nat.pow_le_pow_right (by omega) (by omega : 31 - k ≤ 31)) (by decide)
  have e : ((2 : Int) ^ (31 - k) % 4294967296) = ((2 ^ (31 - k) : Nat) : Int) := by
    rw [two_pow_cast]
    exact nat_emod hp
  rw [e, (bits_nat .u32 32 (by decide) wraps_u32 y (2 ^ (31 - k)) (by omega) (by omega)).1, and_pow]

theorem keepN (x m : Nat) (hm : m ≤ 32) : keepI (x : Int) (m : Int) = ((kpN x m 32 : Nat) : Int) := by
  rw [kpN_end]
  unfold keepI
  rw [show (32 - (m : Int)).toNat = 32 - m from by omega]
  have := Nat.div_add_mod' x (2 ^ (32 - m))
  generalize 2 ^ (32 - m) = P at *
  generalize x / P * P = q at *
  omega

set_option maxHeartbeats 1000000 in
theorem keep23_calls (x n : Int) (h0 : 0 ≤ n) (h1 : n ≤ 32) (x0 : 0 ≤ x) (x1 : x < 4294967296) (w : World) : Calls Tryz.prog 89 #[.int .u32 x, .int .i64 n] w fun e w' => e = .returned (.int .u32 (keepI x n)) ∧ w = w' := by
  obtain ⟨m, rfl⟩ := Int.eq_ofNat_of_zero_le h0
  obtain ⟨x, rfl⟩ := Int.eq_ofNat_of_zero_le x0
  have hm : m ≤ 32 := by omega
  have hx : x < 4294967296 := by omega
  have KE := Lib.hid (keepN x m hm)
  clear h0 h1 x0 x1
  go_enter Tryz.func89, Tryz.ntmps89
  go_wp2_with fail
  go_loop [0, 5] (fun v i => ∃ (k y : Nat), i = .int .i64 k ∧ v = .int .u32 y ∧ m ≤ k ∧ k ≤ 32 ∧ Hid (y = kpN x m k)) (fun _ i => 32 - (intOf i).toNat)
  case atStart => exact ⟨m, x, rfl, rfl, Nat.le_refl _, hm, Lib.hid (kpN_start x m).symm⟩
  case round =>
    obtain ⟨k, y, rfl, rfl, hmk, hk, Y⟩ := hrel
    have hy : y < 4294967296 := by rw [Y.out]; exact kpN_lt x m k hx hmk hk
    by_cases c : k < 32
    · have eb := and_bit y k hy c
      obtain ⟨s1, s2⟩ := kpN_step x m k hmk c
      rw [← Y.out] at s1 s2
      rw [s1] at eb
      rcases Nat.mod_two_eq_zero_or_one (x / 2 ^ (31 - k)) with hb | hb
      · rw [hb, Nat.mul_zero] at eb
        rw [hb, Nat.mul_zero, Nat.add_zero] at s2
        have S2 := Lib.hid s2
        have eb2 : (bits BinOp.and IntKind.u32 (y : Int) (2 ^ (31 - k) % 4294967296) != 0) = false := by rw [eb]; rfl
        clear hb s1 s2 eb
        go_wp2_with fail
        go_round
        case rel => exact ⟨k + 1, y, by go_num, rfl, by omega, c, S2⟩
        case measure => simp [intOf]; omega
      · rw [hb, Nat.mul_one] at eb
        rw [hb, Nat.mul_one] at s2
        have hp : 0 < 2 ^ (31 - k) := Nat.pow_pos (by omega)
        have eb2 : (bits BinOp.and IntKind.u32 (y : Int) (2 ^ (31 - k) % 4294967296) != 0) = true := by
          rw [eb]; simp only [bne_iff_ne, ne_eq]; omega
        have S2 : Hid (y - 2 ^ (31 - k) = kpN x m (k + 1)) := Lib.hid (by omega)
        have EV : Hid (((y : Int) - 2 ^ (31 - k) % 4294967296) % 4294967296 = ((y - 2 ^ (31 - k) : Nat) : Int)) := Lib.hid (by
          have e : ((2 : Int) ^ (31 - k) % 4294967296) = ((2 ^ (31 - k) : Nat) : Int) := by rw [two_pow_cast]; exact nat_emod (Nat.lt_of_le_of_lt (Nat.pow_le_pow_right (by omega) (by omega : 31 - k ≤ 31)) (by decide))
          rw [e]; omega)
        clear hb s1 s2 eb hp
        go_wp2_with fail
        go_round
        case rel =>
          exact ⟨k + 1, _, by go_num, by rw [EV.out], by omega, c, S2⟩
        case measure => simp [intOf]; omega
    · obtain rfl : k = 32 := by omega
      go_wp2_with fail
      go_ret
      exact ⟨by rw [KE.out, Y.out]; rfl, rfl⟩

end Go.Proofs.YtogdconliofblaaGreat

namespace Go.Proofs.YtogdconliofblaaGreat
open Go.RowKit

def cv33 (p q : Ls.Pfx) : Bool := decide (p.len ≤ q.len) && decide (keepI q.addr p.len = p.addr)

set_option maxHeartbeats 4000000 in
theorem covers33_calls (p q : Ls.Pfx) (h0 : 0 ≤ p.len) (h1 : p.len ≤ 32) (okq : OkP q) (w : World) :
    Calls Tryz.prog 52 #[.agg #[.int .u32 p.addr, .int .i64 p.len], .agg #[.int .u32 q.addr, .int .i64 q.len]] w fun e w' => e = .returned (.bool (cv33 p q)) ∧ Gr w w' := by
  have KP := Lib.hid (fun W => keep23_calls q.addr p.len h0 h1 okq.a0 okq.a1 W)
  have mixed : Tryz.prog.follows .mixedOrders = true := by kernel_rfl
  clear h0 h1 okq
  obtain ⟨pa, pl⟩ := p
  obtain ⟨qa, ql⟩ := q
  unfold cv33
  simp only at *
  obtain ⟨W0, hW0⟩ : ∃ W0, (w.alloc (.cells #[.int .u32 pa, .int .i64 pl] 55)).alloc (.cells #[.int .u32 qa, .int .i64 ql] 55) = W0 := ⟨_, rfl⟩
  have b0 : W0.heap[w.heap.size]? = some (.cells #[.int .u32 pa, .int .i64 pl] 55 (0, 0)) := by rw [← hW0]; exact (alloc_get _ _ _ (by simp)).trans (alloc_new w _)
  have b1 : W0.heap[w.heap.size + 1]? = some (.cells #[.int .u32 qa, .int .i64 ql] 55 (0, 0)) := by rw [← hW0]; exact blk_new2 w _ _
  have G0 : Hid (Gr w W0) := Lib.hid (by rw [← hW0]; exact ((Gr.refl _).alloc _).alloc _)
  have p0 := blk_cell (i := 0) b0 rfl
  have p1 := blk_cell (i := 1) b0 rfl
  have q0 := blk_cell (i := 0) b1 rfl
  have q1 := blk_cell (i := 1) b1 rfl
  have HW0 := Lib.hid hW0
  clear hW0 b0 b1
  generalize keepI qa pl = kp at *
  by_cases hl : pl ≤ ql
  · have d1 : decide (pl ≤ ql) = true := decide_eq_true hl
    rw [d1, Bool.true_and]
    clear hl
    go_enter Tryz.func52, Tryz.ntmps52
    go_upto_region 1 with fail
    rw [HW0.out]
    have FIN := Lib.hid (fun n => G0.out.trans ((Gr.refl W0).drewN n))
    go_quiet ((go_at_call 89; exact quiet1 KP.out))
    clear p0 p1 q0 q1
    go_wp2_with fail
    go_ret
    exact ⟨rfl, FIN.out _⟩
  · have d1 : decide (pl ≤ ql) = false := decide_eq_false hl
    rw [d1, Bool.false_and]
    clear hl KP
    go_enter Tryz.func52, Tryz.ntmps52
    go_upto_region 1 with fail
    rw [HW0.out]
    have FIN := Lib.hid (fun n => G0.out.trans ((Gr.refl W0).drewN n))
    go_quiet (fail)
    clear p0 p1 q0 q1
    go_wp2_with fail
    go_ret
    exact ⟨rfl, FIN.out _⟩

def covT (g : Arg) (r : Rt) : Bool := (decide (r.proto = 3) && decide (g.area = r.area)) && cv33 g.pfx r.pfx
/-- the range that takes a route, among the first k -/
def tkK (l : List Arg) (r : Rt) : Nat → Option Nat
  | 0 => none
  | k + 1 => if covT (argAt l k) r = true then (match tkK l r k with
    | none => some k
    | some j => if (argAt l j).pfx.len < (argAt l k).pfx.len then some k else some j) else tkK l r k
def tkI : Option Nat → Int
  | none => -1
  | some j => (j : Int)

theorem tkK_lt (l : List Arg) (r : Rt) : ∀ k j, tkK l r k = some j → j < k
  | 0, j, h => by cases h
  | k + 1, j, h => by
    unfold tkK at h
    have ih := tkK_lt l r k
    split at h
    · split at h
      · cases h; omega
      · rename_i i hi
        have := ih i hi
        split at h <;> cases h <;> omega
    · have := ih j h; omega

theorem tkK_off {l : List Arg} {r : Rt} {k : Nat} (h : covT (argAt l k) r = false) : tkK l r (k + 1) = tkK l r k := by
  show (if _ then _ else _) = _
  rw [h]; exact if_neg (by simp)
theorem tkK_new {l : List Arg} {r : Rt} {k : Nat} (h : covT (argAt l k) r = true) (h2 : tkK l r k = none) : tkK l r (k + 1) = some k := by
  show (if _ then _ else _) = _
  rw [h, if_pos rfl, h2]
theorem tkK_lon {l : List Arg} {r : Rt} {k j : Nat} (h : covT (argAt l k) r = true) (h2 : tkK l r k = some j) (h3 : (argAt l j).pfx.len < (argAt l k).pfx.len) : tkK l r (k + 1) = some k := by
  show (if _ then _ else _) = _
  rw [h, if_pos rfl, h2]; exact if_pos h3
theorem tkK_old {l : List Arg} {r : Rt} {k j : Nat} (h : covT (argAt l k) r = true) (h2 : tkK l r k = some j) (h3 : ¬ (argAt l j).pfx.len < (argAt l k).pfx.len) : tkK l r (k + 1) = some j := by
  show (if _ then _ else _) = _
  rw [h, if_pos rfl, h2]; exact if_neg h3

set_option maxHeartbeats 8000000 in
set_option maxRecDepth 100000 in
theorem taker_calls (w : World) (v : Value) (l : List Arg) (h : RngsAt w v l) (ok : ∀ o ∈ l, validP o.pfx = true) (r : Rt) (okr : OkP r.pfx) :
    Calls Tryz.prog 20 #[v, .agg (rtE r).toArray] w fun e w' => e = .returned (.int .i64 (tkI (tkK l r l.length))) ∧ Gr w w' := by
  obtain ⟨ad, cap, rfl, hlen, hc⟩ := h.get
  have HC := Lib.hid hc
  have OK := Lib.hid ok
  have OKR := Lib.hid okr
  clear h hc ok okr
  have mixed : Tryz.prog.follows .mixedOrders = true := by kernel_rfl
  obtain ⟨W0, hW0⟩ : ∃ W0, w.alloc (.cells (rtE r).toArray 57) = W0 := ⟨_, rfl⟩
  have b0 : W0.heap[w.heap.size]? = some (.cells (rtE r).toArray 57 (0, 0)) := by rw [← hW0]; exact alloc_new w _
  have G0 : Hid (Gr w W0) := Lib.hid (by rw [← hW0]; exact (Gr.refl _).alloc _)
  have HB := Lib.hid b0
  have HW0 := Lib.hid hW0
  obtain ⟨R, hR⟩ : ∃ R, R = r := ⟨_, rfl⟩
  have HR := Lib.hid hR
  have hs0 : w.heap.size < W0.heap.size := by rw [← hW0]; simp
  clear hW0 b0 hR
  obtain ⟨⟨pa, pl⟩, proto, area, cost, second, cost2, tag, ha, hn, hcp⟩ := r
  simp only [rtE] at HW0 HB ⊢
  rw [← HR.out]
  go_enter Tryz.func20, Tryz.ntmps20
  go_upto_region 1 with fail
  rw [HW0.out]
  go_wp2_with fail
  go_loopw [5, 6] (fun bv iv wr => ∃ k : Nat, iv = .int .i64 k ∧ bv = .int .i64 (tkI (tkK l R k)) ∧ k ≤ l.length ∧ Hid (Gr W0 wr)) (fun _ i _ => l.length - (intOf i).toNat)
  case atStart => exact ⟨0, rfl, rfl, Nat.zero_le _, Lib.hid (Gr.refl _)⟩
  case round =>
    obtain ⟨k, rfl, rfl, hk, GG⟩ := hrel
    by_cases c : k < l.length
    · obtain ⟨b, off, rfl, hb0, hcc⟩ := HC.out (by omega)
      have hb1 : b < W0.heap.size := Nat.lt_of_lt_of_le hb0 G0.out.b.size
      have CL : Hid (∀ i, i < l.length → AgCells wr b (off + i * 4) (argAt l i)) := Lib.hid (fun i hi => by rw [argAt_eq hi]; exact ((hcc i hi).below G0.out.b hb0).below GG.out.b hb1)
      have br : wr.heap[w.heap.size]? = some (.cells #[.int .u32 pa, .int .i64 pl, .int .i64 proto, .int .u32 area, .int .i64 cost, .bool second, .int .i64 cost2, .int .i64 tag, .slice ha hn hcp] 57 (0, 0)) := (GG.out.b.block _ hs0).trans HB.out
      have GR := Lib.hid (fun n os => GG.out.trans (Gr.of_grow (W := wr) n os))
      have KC := Lib.hid c
      have i0 : (0 : Int) ≤ (k : Int) := by omega
      have i1 : (k : Int) < (l.length : Int) := by omega
      have s3 : ((k : Int)).toNat = k := by omega
      obtain ⟨d0, d1, d2, -⟩ := CL.out k c
      have CO := Lib.hid (covers33_calls (argAt l k).pfx R.pfx (validP_len (OK.out _ (by rw [argAt_eq c]; exact List.getElem_mem c))).1 (validP_len (OK.out _ (by rw [argAt_eq c]; exact List.getElem_mem c))).2 (by rw [HR.out]; exact OKR.out))
      have CO2 := Lib.hid (fun W => (CO.out W).mono fun _ _ h => (⟨h.1, h.2.grow⟩ : _ ∧ ∃ q os, _ = Go.Sort.grow (World.drewN W q) os))
      have LT := Lib.hid (tkK_lt l R k)
      have T0 := Lib.hid (tkK_off (l := l) (r := R) (k := k))
      have T1 := Lib.hid (tkK_new (l := l) (r := R) (k := k))
      have T2 := Lib.hid (fun j => tkK_lon (l := l) (r := R) (k := k) (j := j))
      have T3 := Lib.hid (fun j => tkK_old (l := l) (r := R) (k := k) (j := j))
      have CV : Hid (covT (argAt l k) R = ((decide (proto = 3) && decide ((argAt l k).area = area)) && cv33 (argAt l k).pfx R.pfx)) := Lib.hid (by rw [HR.out]; rfl)
      rw [HR.out] at CO2
      simp only at CO2
      generalize hcv : cv33 (argAt l k).pfx R.pfx = cb at CV
      have CB : Hid (cv33 (argAt l k).pfx ⟨pa, pl⟩ = cb) := Lib.hid (by rw [← hcv, HR.out])
      rw [CB.out] at CO2
      generalize tkK l R k = o at *
      have x0 : ∀ n os, (Go.Sort.grow (wr.drewN n) os).cell? ⟨b, off + k * 4, none⟩ = some (.int .u32 (argAt l k).area) := cell_grown (World.block_lt_of_cell? _ _ d0) d0
      have x1 : ∀ n os, (Go.Sort.grow (wr.drewN n) os).cell? ⟨b, off + k * 4 + 1, none⟩ = some (.int .u32 (argAt l k).pfx.addr) := cell_grown (World.block_lt_of_cell? _ _ d1) d1
      have x2 : ∀ n os, (Go.Sort.grow (wr.drewN n) os).cell? ⟨b, off + k * 4 + 2, none⟩ = some (.int .i64 (argAt l k).pfx.len) := cell_grown (World.block_lt_of_cell? _ _ d2) d2
      have y0 := blk_cell (i := 0) br rfl
      have y1 := blk_cell (i := 1) br rfl
      have y2 := blk_cell (i := 2) br rfl
      have y3 := blk_cell (i := 3) br rfl
      have y0 : ∀ n os, (Go.Sort.grow (wr.drewN n) os).cell? ⟨w.heap.size, 0, none⟩ = some (.int .u32 pa) := cell_grown (World.block_lt_of_cell? _ _ y0) y0
      have y1 : ∀ n os, (Go.Sort.grow (wr.drewN n) os).cell? ⟨w.heap.size, 1, none⟩ = some (.int .i64 pl) := cell_grown (World.block_lt_of_cell? _ _ y1) y1
      have y2 : ∀ n os, (Go.Sort.grow (wr.drewN n) os).cell? ⟨w.heap.size, 2, none⟩ = some (.int .i64 proto) := cell_grown (World.block_lt_of_cell? _ _ y2) y2
      have y3 : ∀ n os, (Go.Sort.grow (wr.drewN n) os).cell? ⟨w.heap.size, 3, none⟩ = some (.int .u32 area) := cell_grown (World.block_lt_of_cell? _ _ y3) y3
      clear hcv CB CO br hcc d0 d1 d2 c
      generalize hgk : argAt l k = g at *
      obtain ⟨ga, ⟨gp, gl⟩, gadv⟩ := g
      simp only at x0 x1 x2 CO2
      by_cases q1 : proto = 3
      · subst q1
        by_cases q2 : ga = area
        · subst q2
          have e2 : (ga == ga) = true := by simp
          cases cb with
          | false =>
            have NX := Lib.hid (T0.out (by rw [CV.out]; simp))
            go_wp2_with fail
            refine wp_region_quiet_grown (by assumption) (by kernel_rfl) ?_
            repeat (go_big_quiet_step ((go_at_call 52; with_reducible exact Calls.grown_of (CO2.out _))))
            refine wpQuiet_nil ?_
            intro _ hw'
            obtain ⟨⟨nq, osq⟩, hw''⟩ := hw'
            subst hw''
            have NZ := Lib.hid (GR.out nq osq)
            clear x0 x1 x2 y0 y1 y2 y3
            go_wp2_with fail
            go_roundw
            case rel => exact ⟨k + 1, by go_num, by rw [NX.out], KC.out, NZ⟩
            case measure => simp [intOf]; have := KC.out; omega
          | true =>
            have CT := Lib.hid (show covT ⟨ga, ⟨gp, gl⟩, gadv⟩ R = true by rw [CV.out]; simp)
            cases o with
            | none =>
              have NX := Lib.hid (T1.out CT.out rfl)
              simp only [tkI]
              go_wp2_with fail
              refine wp_region_quiet_grown (by assumption) (by kernel_rfl) ?_
              repeat (go_big_quiet_step ((go_at_call 52; with_reducible exact Calls.grown_of (CO2.out _))))
              refine wpQuiet_nil ?_
              intro _ hw'
              obtain ⟨⟨nq, osq⟩, hw''⟩ := hw'
              subst hw''
              have NZ := Lib.hid (GR.out nq osq)
              clear x0 x1 x2 y0 y1 y2 y3
              go_wp2_with fail
              go_roundw
              case rel => exact ⟨k + 1, by go_num, by rw [NX.out], KC.out, NZ⟩
              case measure => simp [intOf]; have := KC.out; omega
            | some j =>
              have hj : j < k := LT.out j rfl
              obtain ⟨-, -, z2, -⟩ := CL.out j (by have := KC.out; omega)
              have z2 : ∀ n os, (Go.Sort.grow (wr.drewN n) os).cell? ⟨b, off + j * 4 + 2, none⟩ = some (.int .i64 (argAt l j).pfx.len) := cell_grown (World.block_lt_of_cell? _ _ z2) z2
              have T2j := Lib.hid (T2.out j CT.out rfl)
              have T3j := Lib.hid (T3.out j CT.out rfl)
              have j0 : (0 : Int) ≤ (j : Int) := by omega
              have j1 : (j : Int) < (l.length : Int) := by have := KC.out; omega
              have s2 : ((j : Int)).toNat = j := by omega
              have jn : decide ((j : Int) < 0) = false := decide_eq_false (by omega)
              clear T0 T1 T2 T3 hj
              generalize argAt l j = z at *
              obtain ⟨za, ⟨zp, zl⟩, zadv⟩ := z
              simp only [tkI] at z2 T2j T3j ⊢
              by_cases q3 : zl < gl
              · have e3 : decide (zl < gl) = true := decide_eq_true q3
                have NX := Lib.hid (T2j.out q3)
                clear q3 T2j T3j
                go_wp2_with fail
                refine wp_region_quiet_grown (by assumption) (by kernel_rfl) ?_
                repeat (go_big_quiet_step ((go_at_call 52; with_reducible exact Calls.grown_of (CO2.out _))))
                refine wpQuiet_nil ?_
                intro _ hw'
                obtain ⟨⟨nq, osq⟩, hw''⟩ := hw'
                subst hw''
                have NZ := Lib.hid (GR.out nq osq)
                clear x0 x1 x2 y0 y1 y2 y3 z2
                go_wp2_with fail
                go_roundw
                case rel => exact ⟨k + 1, by go_num, by rw [NX.out], KC.out, NZ⟩
                case measure => simp [intOf]; have := KC.out; omega
              · have e3 : decide (zl < gl) = false := decide_eq_false q3
                have NX := Lib.hid (T3j.out q3)
                clear q3 T2j T3j
                go_wp2_with fail
                refine wp_region_quiet_grown (by assumption) (by kernel_rfl) ?_
                repeat (go_big_quiet_step ((go_at_call 52; with_reducible exact Calls.grown_of (CO2.out _))))
                refine wpQuiet_nil ?_
                intro _ hw'
                obtain ⟨⟨nq, osq⟩, hw''⟩ := hw'
                subst hw''
                have NZ := Lib.hid (GR.out nq osq)
                clear x0 x1 x2 y0 y1 y2 y3 z2
                go_wp2_with fail
                go_roundw
                case rel => exact ⟨k + 1, by go_num, by rw [NX.out], KC.out, NZ⟩
                case measure => simp [intOf]; have := KC.out; omega
        · have e2 : (ga == area) = false := by simpa using q2
          have NX := Lib.hid (T0.out (by rw [CV.out]; simp [q2]))
          clear q2 CO2
          go_wp2_with fail
          refine wp_region_quiet_grown (by assumption) (by kernel_rfl) ?_
          repeat (go_big_quiet_step (fail))
          refine wpQuiet_nil ?_
          intro _ hw'
          obtain ⟨⟨nq, osq⟩, hw''⟩ := hw'
          subst hw''
          have NZ := Lib.hid (GR.out nq osq)
          clear x0 x1 x2 y0 y1 y2 y3
          go_wp2_with fail
          go_roundw
          case rel => exact ⟨k + 1, by go_num, by rw [NX.out], KC.out, NZ⟩
          case measure => simp [intOf]; have := KC.out; omega
      · have e1 : (proto == 3) = false := by simpa using q1
        have NX := Lib.hid (T0.out (by rw [CV.out]; simp [q1]))
        clear q1 CO2
        go_wp2_with fail
        refine wp_region_quiet_grown (by assumption) (by kernel_rfl) ?_
        repeat (go_big_quiet_step (fail))
        refine wpQuiet_nil ?_
        intro _ hw'
        obtain ⟨⟨nq, osq⟩, hw''⟩ := hw'
        subst hw''
        have NZ := Lib.hid (GR.out nq osq)
        clear x0 x1 x2 y0 y1 y2 y3
        go_wp2_with fail
        go_roundw
        case rel => exact ⟨k + 1, by go_num, by rw [NX.out], KC.out, NZ⟩
        case measure => simp [intOf]; have := KC.out; omega
    · obtain rfl : k = l.length := by omega
      have E := Lib.hid (G0.out.trans GG.out)
      go_wp2_with fail
      go_ret
      exact ⟨rfl, E.out⟩

end Go.Proofs.YtogdconliofblaaGreat
