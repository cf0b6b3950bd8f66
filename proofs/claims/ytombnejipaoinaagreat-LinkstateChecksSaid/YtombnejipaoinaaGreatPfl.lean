/-
  Prefixes: routingref23.Keep, routingref26.In, prefix.Compare, prefix.Covers, routingref32.Less.
-/
import Derived.Test.YtombnejipaoinaaGreatSea
import Derived.Deep.DeepCutAuto
import Derived.BigQuiet
import Derived.IntWalk
namespace Go.Proofs.YtombnejipaoinaaGreat
open Go.RowKit

def kpN (x m k : Nat) : Nat := x / 2 ^ (32 - m) * 2 ^ (32 - m) + x % 2 ^ (32 - k)
theorem kpN_lt (x m k : Nat) (hx : x < 4294967296) (hmk : m ≤ k) (_hk : k ≤ 32) : kpN x m k < 4294967296 := by
  unfold kpN
  have h1 := Nat.div_add_mod' x (2 ^ (32 - m))
  have h2 : x % 2 ^ (32 - k) ≤ x % 2 ^ (32 - m) := by
    rw [show 2 ^ (32 - m) = 2 ^ (32 - k) * 2 ^ (k - m) from by rw [← Nat.pow_add]; congr 1; omega, Nat.mod_mul]
    omega
  omega
theorem kpN_start (x m : Nat) : kpN x m m = x := Nat.div_add_mod' x _
theorem kpN_end (x m : Nat) : kpN x m 32 = x / 2 ^ (32 - m) * 2 ^ (32 - m) := by unfold kpN; simp [Nat.mod_one]
theorem kpN_step (x m k : Nat) (hmk : m ≤ k) (hk : k < 32) : kpN x m k / 2 ^ (31 - k) % 2 = x / 2 ^ (31 - k) % 2 ∧ kpN x m k = kpN x m (k + 1) + 2 ^ (31 - k) * (x / 2 ^ (31 - k) % 2) := by
  unfold kpN
  have e1 : 2 ^ (32 - k) = 2 ^ (31 - k) * 2 := by rw [← Nat.pow_succ]; congr 1; omega
  have e2 : 2 ^ (32 - m) = 2 ^ (31 - k) * (2 * 2 ^ (k - m)) := by rw [← Nat.mul_assoc, ← e1, ← Nat.pow_add]; congr 1; omega
  have e3 : 32 - (k + 1) = 31 - k := by omega
  have hP : 0 < 2 ^ (31 - k) := Nat.pow_pos (by omega)
  rw [e3, e1, e2, Nat.mod_mul]
  generalize 2 ^ (31 - k) = P at *
  generalize 2 ^ (k - m) = Q at *
  refine ⟨?_, by omega⟩
  have h1 : x / (P * (2 * Q)) * (P * (2 * Q)) + (x % P + P * (x / P % 2)) = x % P + P * (2 * (x / (P * (2 * Q)) * Q) + x / P % 2) := by
    have : x / (P * (2 * Q)) * (P * (2 * Q)) = P * (2 * (x / (P * (2 * Q)) * Q)) := by
      rw [← Nat.mul_assoc, Nat.mul_comm (x / (P * (2 * Q))) P, Nat.mul_assoc]
      congr 1
      rw [← Nat.mul_assoc, Nat.mul_comm (x / (P * (2 * Q))) 2, Nat.mul_assoc]
    rw [this, Nat.mul_add]; omega
  rw [h1, Nat.add_mul_div_left _ _ hP, Nat.div_eq_of_lt (Nat.mod_lt _ hP)]
  omega

theorem nat_emod {P : Nat} (h : P < 4294967296) : (P : Int) % 4294967296 = P := by omega

theorem and_pow (y j : Nat) : y &&& 2 ^ j = 2 ^ j * (y / 2 ^ j % 2) := by
  have hb : y.testBit j = decide (y / 2 ^ j % 2 = 1) := Nat.testBit_eq_decide_div_mod_eq
  apply Nat.eq_of_testBit_eq
  intro i
  rw [Nat.testBit_and, Nat.testBit_two_pow]
  rcases Nat.mod_two_eq_zero_or_one (y / 2 ^ j) with h | h
  · rw [h, Nat.mul_zero, Nat.zero_testBit]
    by_cases e : j = i
    · subst e; rw [hb, h]; rfl
    · simp [e]
  · rw [h, Nat.mul_one, Nat.testBit_two_pow]
    by_cases e : j = i
    · subst e; rw [hb, h]; rfl
    · simp [e]

theorem and_bit (y k : Nat) (hy : y < 4294967296) (hk : k < 32) : bits BinOp.and IntKind.u32 (y : Int) (2 ^ (31 - k) % 4294967296) = ((2 ^ (31 - k) * (y / 2 ^ (31 - k) % 2) : Nat) : Int) := by
  have hp : 2 ^ (31 - k) < 4294967296 := Nat.lt_of_le_of_lt (Nat.pow_le_pow_right (by omega) (by omega : 31 - k ≤ 31)) (by decide)
  have e : ((2 : Int) ^ (31 - k) % 4294967296) = ((2 ^ (31 - k) : Nat) : Int) := by
    rw [two_pow_cast]
    exact nat_emod hp
  rw [e, (bits_nat .u32 32 (by decide) wraps_u32 y (2 ^ (31 - k)) (by omega) (by omega)).1, and_pow]

theorem keepN (x m : Nat) (hm : m ≤ 32) : keepI (x : Int) (m : Int) = ((kpN x m 32 : Nat) : Int) := by
  rw [kpN_end]
  unfold keepI
  rw [show (32 - (m : Int)).toNat = 32 - m from by omega]
  have := Nat.div_add_mod' x (2 ^ (32 - m))
  generalize 2 ^ (32 - m) = P at *
  generalize x / P * P = q at *
  omega

set_option maxHeartbeats 1000000 in
theorem keep23_calls (x n : Int) (h0 : 0 ≤ n) (h1 : n ≤ 32) (x0 : 0 ≤ x) (x1 : x < 4294967296) (w : World) : Calls Tryz.prog 54 #[.int .u32 x, .int .i64 n] w fun e w' => e = .returned (.int .u32 (keepI x n)) ∧ w = w' := by
  obtain ⟨m, rfl⟩ := Int.eq_ofNat_of_zero_le h0
  obtain ⟨x, rfl⟩ := Int.eq_ofNat_of_zero_le x0
  have hm : m ≤ 32 := by omega
  have hx : x < 4294967296 := by omega
  have KE := Lib.hid (keepN x m hm)
  clear h0 h1 x0 x1
  go_enter Tryz.func54, Tryz.ntmps54
  go_wp2_with fail
  go_loop [0, 5] (fun v i => ∃ (k y : Nat), i = .int .i64 k ∧ v = .int .u32 y ∧ m ≤ k ∧ k ≤ 32 ∧ Hid (y = kpN x m k)) (fun _ i => 32 - (intOf i).toNat)
  case atStart => exact ⟨m, x, rfl, rfl, Nat.le_refl _, hm, Lib.hid (kpN_start x m).symm⟩
  case round =>
    obtain ⟨k, y, rfl, rfl, hmk, hk, Y⟩ := hrel
    have hy : y < 4294967296 := by rw [Y.out]; exact kpN_lt x m k hx hmk hk
    by_cases c : k < 32
    · have eb := and_bit y k hy c
      obtain ⟨s1, s2⟩ := kpN_step x m k hmk c
      rw [← Y.out] at s1 s2
      rw [s1] at eb
      rcases Nat.mod_two_eq_zero_or_one (x / 2 ^ (31 - k)) with hb | hb
      · rw [hb, Nat.mul_zero] at eb
        rw [hb, Nat.mul_zero, Nat.add_zero] at s2
        have S2 := Lib.hid s2
        have eb2 : (bits BinOp.and IntKind.u32 (y : Int) (2 ^ (31 - k) % 4294967296) != 0) = false := by rw [eb]; rfl
        clear hb s1 s2 eb
        go_wp2_with fail
        go_round
        case rel => exact ⟨k + 1, y, by go_num, rfl, by omega, c, S2⟩
        case measure => simp [intOf]; omega
      · rw [hb, Nat.mul_one] at eb
        rw [hb, Nat.mul_one] at s2
        have hp : 0 < 2 ^ (31 - k) := Nat.pow_pos (by omega)
        have eb2 : (bits BinOp.and IntKind.u32 (y : Int) (2 ^ (31 - k) % 4294967296) != 0) = true := by
          rw [eb]; simp only [bne_iff_ne, ne_eq]; omega
        have S2 : Hid (y - 2 ^ (31 - k) = kpN x m (k + 1)) := Lib.hid (by omega)
        have EV : Hid (((y : Int) - 2 ^ (31 - k) % 4294967296) % 4294967296 = ((y - 2 ^ (31 - k) : Nat) : Int)) := Lib.hid (by
          have e : ((2 : Int) ^ (31 - k) % 4294967296) = ((2 ^ (31 - k) : Nat) : Int) := by rw [two_pow_cast]; exact nat_emod (Nat.lt_of_le_of_lt (Nat.pow_le_pow_right (by omega) (by omega : 31 - k ≤ 31)) (by decide))
          rw [e]; omega)
        clear hb s1 s2 eb hp
        go_wp2_with fail
        go_round
        case rel =>
          exact ⟨k + 1, _, by go_num, by rw [EV.out], by omega, c, S2⟩
        case measure => simp [intOf]; omega
    · obtain rfl : k = 32 := by omega
      go_wp2_with fail
      go_ret
      exact ⟨by rw [KE.out, Y.out]; rfl, rfl⟩

def inB (pa pl ad : Int) : Bool := decide (keepI ad pl = pa)

set_option maxHeartbeats 4000000 in
theorem in26_calls (pa pl ad : Int) (h0 : 0 ≤ pl) (h1 : pl ≤ 32) (x0 : 0 ≤ ad) (x1 : ad < 4294967296) (w : World) :
    Calls Tryz.prog 53 #[.agg #[.int .u32 pa, .int .i64 pl], .int .u32 ad] w fun e w' => e = .returned (.bool (inB pa pl ad)) ∧ Gr w w' := by
  have KP := Lib.hid (fun W => keep23_calls ad pl h0 h1 x0 x1 W)
  have mixed : Tryz.prog.follows .mixedOrders = true := by kernel_rfl
  clear h0 h1 x0 x1
  unfold inB
  generalize keepI ad pl = kp at *
  obtain ⟨W0, hW0⟩ : ∃ W0, w.alloc (.cells #[.int .u32 pa, .int .i64 pl] 68) = W0 := ⟨_, rfl⟩
  have b0 : W0.heap[w.heap.size]? = some (.cells #[.int .u32 pa, .int .i64 pl] 68 (0, 0)) := by rw [← hW0]; exact alloc_new w _
  have G0 : Hid (Gr w W0) := Lib.hid (by rw [← hW0]; exact (Gr.refl _).alloc _)
  have p0 := blk_cell (i := 0) b0 rfl
  have p1 := blk_cell (i := 1) b0 rfl
  have HW0 := Lib.hid hW0
  have FIN := Lib.hid (fun n => G0.out.trans ((Gr.refl W0).drewN n))
  have eq1 : ∀ kp pa : Int, (kp == pa) = decide (kp = pa) := fun kp pa => by by_cases c : kp = pa <;> simp [c]
  have e1 := eq1 kp pa
  clear hW0 b0 eq1
  go_enter Tryz.func53, Tryz.ntmps53
  go_upto_region 1 with fail
  rw [HW0.out]
  go_quiet ((go_at_call 54; exact quiet1 KP.out))
  clear p0 p1
  go_wp2_with fail
  go_ret
  exact ⟨rfl, FIN.out _⟩

def pfxCmp (p q : Ls.Pfx) : Int := if Ls.pfxLt p q then -1 else if p = q then 0 else 1

set_option maxHeartbeats 1000000 in
theorem pcompare_calls (p q : Ls.Pfx) (w : World) : Calls Tryz.prog 23 #[.agg #[.int .u32 p.addr, .int .i64 p.len], .agg #[.int .u32 q.addr, .int .i64 q.len]] w fun e w' => e = .returned (.int .i64 (pfxCmp p q)) ∧ Gr w w' := by
  have E := eqPfx p q
  obtain ⟨pa, pl⟩ := p
  obtain ⟨qa, ql⟩ := q
  simp only at *
  by_cases h1 : pa < qa
  · rw [show pfxCmp ⟨pa, pl⟩ ⟨qa, ql⟩ = -1 from by simp [pfxCmp, Ls.pfxLt, Ls.lexB, h1]]
    have d1 : decide (pa < qa) = true := by simpa using h1
    go_enter Tryz.func23, Tryz.ntmps23
    go_wp2_with fail
    go_ret
    exact ⟨rfl, ((Gr.refl _).alloc _).alloc _⟩
  · have d1 : decide (pa < qa) = false := by simpa using h1
    by_cases h2 : pa = qa
    · subst h2
      by_cases h3 : pl < ql
      · rw [show pfxCmp ⟨pa, pl⟩ ⟨pa, ql⟩ = -1 from by simp [pfxCmp, Ls.pfxLt, Ls.lexB, h3]]
        have d3 : decide (pl < ql) = true := by simpa using h3
        go_enter Tryz.func23, Tryz.ntmps23
        go_wp2_with fail
        go_ret
        exact ⟨rfl, ((Gr.refl _).alloc _).alloc _⟩
      · have d3 : decide (pl < ql) = false := by simpa using h3
        by_cases h4 : pl = ql
        · subst h4
          rw [show pfxCmp ⟨pa, pl⟩ ⟨pa, pl⟩ = 0 from by simp [pfxCmp, Ls.pfxLt, Ls.lexB]]
          rw [show decide ((⟨pa, pl⟩ : Ls.Pfx) = ⟨pa, pl⟩) = true from by simp] at E
          go_enter Tryz.func23, Tryz.ntmps23
          go_wp2_with fail
          go_ret
          exact ⟨rfl, ((Gr.refl _).alloc _).alloc _⟩
        · rw [show pfxCmp ⟨pa, pl⟩ ⟨pa, ql⟩ = 1 from by simp [pfxCmp, Ls.pfxLt, Ls.lexB, h3, h4]]
          rw [show decide ((⟨pa, pl⟩ : Ls.Pfx) = ⟨pa, ql⟩) = false from by simp [h4]] at E
          clear h4
          go_enter Tryz.func23, Tryz.ntmps23
          go_wp2_with fail
          go_ret
          exact ⟨rfl, ((Gr.refl _).alloc _).alloc _⟩
    · rw [show pfxCmp ⟨pa, pl⟩ ⟨qa, ql⟩ = 1 from by simp [pfxCmp, Ls.pfxLt, Ls.lexB, h1, h2]]
      rw [show decide ((⟨pa, pl⟩ : Ls.Pfx) = ⟨qa, ql⟩) = false from by simp [h2]] at E
      have d2 : (pa == qa) = false := by simpa using h2
      clear h2
      go_enter Tryz.func23, Tryz.ntmps23
      go_wp2_with fail
      go_ret
      exact ⟨rfl, ((Gr.refl _).alloc _).alloc _⟩

def pcovB (p q : Ls.Pfx) : Bool := (validP q && decide (p.len ≤ q.len)) && containsP p q.addr

set_option maxHeartbeats 4000000 in
theorem pcovers_calls (p q : Ls.Pfx) (okp : OkP p) (okq : OkP q) (w : World) : Calls Tryz.prog 129 #[.agg #[.int .u32 p.addr, .int .i64 p.len], .agg #[.int .u32 q.addr, .int .i64 q.len]] w fun e w' => e = .returned (.bool (pcovB p q)) ∧ Gr w w' := by
  have V := Lib.hid (fun W => valid_calls q okq W)
  have C := Lib.hid (fun W => contains_calls p okp q.addr okq.a0 okq.a1 W)
  unfold pcovB
  generalize containsP p q.addr = cb at *
  generalize validP q = vb at *
  clear okp okq
  obtain ⟨pa, pl⟩ := p
  obtain ⟨qa, ql⟩ := q
  simp only at *
  obtain ⟨W0, hW0⟩ : ∃ W0, (w.alloc (.cells #[.int .u32 pa, .int .i64 pl] 68)).alloc (.cells #[.int .u32 qa, .int .i64 ql] 68) = W0 := ⟨_, rfl⟩
  have b0 : W0.heap[w.heap.size]? = some (.cells #[.int .u32 pa, .int .i64 pl] 68 (0, 0)) := by rw [← hW0]; exact (alloc_get _ _ _ (by simp)).trans (alloc_new w _)
  have b1 : W0.heap[w.heap.size + 1]? = some (.cells #[.int .u32 qa, .int .i64 ql] 68 (0, 0)) := by rw [← hW0]; have := alloc_new (w.alloc (.cells #[.int .u32 pa, .int .i64 pl] 68)) (.cells #[.int .u32 qa, .int .i64 ql] 68); simpa using this
  have G0 : Hid (Gr w W0) := Lib.hid (by rw [← hW0]; exact ((Gr.refl _).alloc _).alloc _)
  have p0 := blk_cell (i := 0) b0 rfl
  have p1 := blk_cell (i := 1) b0 rfl
  have q0 := blk_cell (i := 0) b1 rfl
  have q1 := blk_cell (i := 1) b1 rfl
  have HW0 := Lib.hid hW0
  clear hW0 b0 b1
  cases vb with
  | false =>
    go_enter Tryz.func129, Tryz.ntmps129
    go_upto_region 1 with fail
    rw [HW0.out]
    go_wp2_with fail
    refine (V.out _).mono ?_
    rintro e w1 ⟨rfl, G1⟩
    have FIN := Lib.hid (G0.out.trans G1)
    clear G1 p0 p1 q0 q1
    go_wp2_with fail
    go_ret
    exact ⟨rfl, FIN.out⟩
  | true =>
    by_cases hl : pl ≤ ql
    · rw [show decide (pl ≤ ql) = true from by simpa using hl]
      simp only [Bool.and_self, Bool.true_and]
      have hl1 : decide (pl ≤ ql) = true := by simpa using hl
      go_enter Tryz.func129, Tryz.ntmps129
      go_upto_region 1 with fail
      rw [HW0.out]
      go_wp2_with fail
      refine (V.out _).mono ?_
      rintro e w1 ⟨rfl, G1⟩
      have HG := Lib.hid (G0.out.trans G1)
      have p0 := bcell G1.b p0
      have p1 := bcell G1.b p1
      have q0 := bcell G1.b q0
      have q1 := bcell G1.b q1
      clear G1
      go_wp2_with fail
      refine (C.out _).mono ?_
      rintro e w2 ⟨rfl, G2⟩
      have FIN := Lib.hid (HG.out.trans G2)
      clear G2 p0 p1 q0 q1
      go_wp2_with fail
      go_ret
      exact ⟨rfl, FIN.out⟩
    · rw [show decide (pl ≤ ql) = false from by simpa using hl]
      have hl1 : decide (pl ≤ ql) = false := by simpa using hl
      simp only [Bool.and_false, Bool.false_and]
      clear hl
      go_enter Tryz.func129, Tryz.ntmps129
      go_upto_region 1 with fail
      rw [HW0.out]
      go_wp2_with fail
      refine (V.out _).mono ?_
      rintro e w1 ⟨rfl, G1⟩
      have FIN := Lib.hid (G0.out.trans G1)
      have p0 := bcell G1.b p0
      have p1 := bcell G1.b p1
      have q0 := bcell G1.b q0
      have q1 := bcell G1.b q1
      clear G1
      go_wp2_with fail
      go_ret
      exact ⟨rfl, FIN.out⟩



set_option maxHeartbeats 1000000 in
theorem less_calls (p q : Ls.Pfx) (w : World) : Calls Tryz.prog 55 #[.agg #[.int .u32 p.addr, .int .i64 p.len], .agg #[.int .u32 q.addr, .int .i64 q.len]] w fun e w' => e = .returned (.bool (Ls.pfxLt p q)) ∧ Gr w w' := by
  obtain ⟨pa, pl⟩ := p
  obtain ⟨qa, ql⟩ := q
  simp only
  by_cases h1 : pa < qa
  · rw [show Ls.pfxLt ⟨pa, pl⟩ ⟨qa, ql⟩ = true from by simp [Ls.pfxLt, Ls.lexB, h1]]
    go_enter Tryz.func55, Tryz.ntmps55
    go_wp2_with fail
    go_ret
    exact ⟨rfl, ((Gr.refl _).alloc _).alloc _⟩
  · have d1 : decide (pa < qa) = false := by simpa using h1
    by_cases h2 : pa = qa
    · subst h2
      by_cases h3 : pl < ql
      · rw [show Ls.pfxLt ⟨pa, pl⟩ ⟨pa, ql⟩ = true from by simp [Ls.pfxLt, Ls.lexB, h3]]
        go_enter Tryz.func55, Tryz.ntmps55
        go_wp2_with fail
        go_ret
        exact ⟨rfl, ((Gr.refl _).alloc _).alloc _⟩
      · have d3 : decide (pl < ql) = false := by simpa using h3
        rw [show Ls.pfxLt ⟨pa, pl⟩ ⟨pa, ql⟩ = false from by simp [Ls.pfxLt, Ls.lexB, h3]]
        go_enter Tryz.func55, Tryz.ntmps55
        go_wp2_with fail
        go_ret
        exact ⟨rfl, ((Gr.refl _).alloc _).alloc _⟩
    · rw [show Ls.pfxLt ⟨pa, pl⟩ ⟨qa, ql⟩ = false from by simp [Ls.pfxLt, Ls.lexB, h1, h2]]
      have d2 : (pa == qa) = false := by simpa using h2
      clear h2
      go_enter Tryz.func55, Tryz.ntmps55
      go_wp2_with fail
      go_ret
      exact ⟨rfl, ((Gr.refl _).alloc _).alloc _⟩

end Go.Proofs.YtombnejipaoinaaGreat
