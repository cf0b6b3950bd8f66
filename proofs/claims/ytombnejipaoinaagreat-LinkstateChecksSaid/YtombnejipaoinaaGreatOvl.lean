/-
  Do two prefixes share an address: prefix.Overlap, routingref35.overlap.
-/
import Derived.Test.YtombnejipaoinaaGreatIfl
namespace Go.Proofs.YtombnejipaoinaaGreat
open Go.RowKit

def overB (p q : Ls.Pfx) : Bool := pcovB p q || pcovB q p
def shareB (p q : Ls.Pfx) : Bool := decide (keepI p.addr (if q.len < p.len then q.len else p.len) = keepI q.addr (if q.len < p.len then q.len else p.len))

theorem over_share {p q : Ls.Pfx} (hp : validP p = true) (hq : validP q = true) : overB p q = shareB p q := by
  have kp : keepI p.addr p.len = p.addr := by simp [validP] at hp; exact hp.2
  have kq : keepI q.addr q.len = q.addr := by simp [validP] at hq; exact hq.2
  unfold overB shareB pcovB containsP
  rw [hp, hq]
  by_cases h : q.len < p.len
  · have h1 : ¬ p.len ≤ q.len := by omega
    have h2 : q.len ≤ p.len := by omega
    rw [if_pos h, kq]
    simp [h1, h2]
  · have h1 : p.len ≤ q.len := by omega
    rw [if_neg h, kp]
    by_cases h2 : q.len ≤ p.len
    · have e : p.len = q.len := by omega
      rw [e] at kp ⊢
      rw [kp, kq]
      by_cases c : q.addr = p.addr <;> simp [c, eq_comm (a := p.addr)]
    · simp [h1, h2, eq_comm]

set_option maxHeartbeats 4000000 in
theorem overlap_calls (p q : Ls.Pfx) (okp : OkP p) (okq : OkP q) (w : World) : Calls Tryz.prog 49 #[.agg #[.int .u32 p.addr, .int .i64 p.len], .agg #[.int .u32 q.addr, .int .i64 q.len]] w fun e w' => e = .returned (.bool (overB p q)) ∧ Gr w w' := by
  have C1 := Lib.hid (fun W => pcovers_calls p q okp okq W)
  have C2 := Lib.hid (fun W => pcovers_calls q p okq okp W)
  unfold overB
  generalize pcovB p q = c1 at *
  generalize pcovB q p = c2 at *
  clear okp okq
  obtain ⟨pa, pl⟩ := p
  obtain ⟨qa, ql⟩ := q
  simp only at *
  obtain ⟨W0, hW0⟩ : ∃ W0, (w.alloc (.cells #[.int .u32 pa, .int .i64 pl] 68)).alloc (.cells #[.int .u32 qa, .int .i64 ql] 68) = W0 := ⟨_, rfl⟩
  have b0 : W0.heap[w.heap.size]? = some (.cells #[.int .u32 pa, .int .i64 pl] 68 (0, 0)) := by rw [← hW0]; exact (alloc_get _ _ _ (by simp)).trans (alloc_new w _)
  have b1 : W0.heap[w.heap.size + 1]? = some (.cells #[.int .u32 qa, .int .i64 ql] 68 (0, 0)) := by rw [← hW0]; have := alloc_new (w.alloc (.cells #[.int .u32 pa, .int .i64 pl] 68)) (.cells #[.int .u32 qa, .int .i64 ql] 68); simpa using this
  have G0 : Hid (Gr w W0) := Lib.hid (by rw [← hW0]; exact ((Gr.refl _).alloc _).alloc _)
  have p0 := blk_cell (i := 0) b0 rfl
  have p1 := blk_cell (i := 1) b0 rfl
  have q0 := blk_cell (i := 0) b1 rfl
  have q1 := blk_cell (i := 1) b1 rfl
  have HW0 := Lib.hid hW0
  have B0 := Lib.hid b0
  have B1 := Lib.hid b1
  clear hW0 b0 b1
  cases c1 with
  | true =>
    go_enter Tryz.func49, Tryz.ntmps49
    go_upto_region 1 with fail
    rw [HW0.out]
    go_wp2_with (go_at_call 129; refine (C1.out _).mono ?_; rintro e w1 ⟨rfl, G1⟩; have GG := Lib.hid (G0.out.trans G1); clear G1)
    go_ret
    exact ⟨rfl, GG.out⟩
  | false =>
    go_enter Tryz.func49, Tryz.ntmps49
    go_upto_region 1 with fail
    rw [HW0.out]
    go_wp2_with fail
    refine (C1.out _).mono ?_
    rintro e w1 ⟨rfl, G1⟩
    have GG := Lib.hid (G0.out.trans G1)
    have d0 := (G1.b.block _ (blk_lt B0.out)).trans B0.out
    have d1 := (G1.b.block _ (blk_lt B1.out)).trans B1.out
    have r0 := blk_cell (i := 0) d0 rfl
    have r1 := blk_cell (i := 1) d0 rfl
    have s0 := blk_cell (i := 0) d1 rfl
    have s1 := blk_cell (i := 1) d1 rfl
    clear d0 d1 G1 p0 p1 q0 q1
    go_wp2_with fail
    refine (C2.out _).mono ?_
    rintro e w2 ⟨rfl, G2⟩
    have G3 := Lib.hid (GG.out.trans G2)
    clear G2
    go_wp2_with fail
    go_ret
    exact ⟨by rw [Bool.false_or]; rfl, G3.out⟩

set_option maxHeartbeats 4000000 in
theorem roverlap_calls (p q : Ls.Pfx) (okp : OkP p) (okq : OkP q) (hp : validP p = true) (hq : validP q = true) (w : World) : Calls Tryz.prog 25 #[.agg #[.int .u32 p.addr, .int .i64 p.len], .agg #[.int .u32 q.addr, .int .i64 q.len]] w fun e w' => e = .returned (.bool (overB p q)) ∧ Gr w w' := by
  rw [over_share hp hq]
  have lp := validP_len hp
  have lq := validP_len hq
  have hn : 0 ≤ (if q.len < p.len then q.len else p.len) ∧ (if q.len < p.len then q.len else p.len) ≤ 32 := by split <;> omega
  have C1 := Lib.hid (fun W => keep23_calls p.addr _ hn.1 hn.2 okp.a0 okp.a1 W)
  have C2 := Lib.hid (fun W => keep23_calls q.addr _ hn.1 hn.2 okq.a0 okq.a1 W)
  have mixed : Tryz.prog.follows .mixedOrders = true := by kernel_rfl
  have eq1 : ∀ a b : Int, (a == b) = decide (a = b) := fun a b => by by_cases c : a = b <;> simp [c]
  unfold shareB
  clear okp okq hn lp lq hp hq
  obtain ⟨pa, pl⟩ := p
  obtain ⟨qa, ql⟩ := q
  simp only at *
  obtain ⟨W0, hW0⟩ : ∃ W0, (w.alloc (.cells #[.int .u32 pa, .int .i64 pl] 68)).alloc (.cells #[.int .u32 qa, .int .i64 ql] 68) = W0 := ⟨_, rfl⟩
  have b0 : W0.heap[w.heap.size]? = some (.cells #[.int .u32 pa, .int .i64 pl] 68 (0, 0)) := by rw [← hW0]; exact (alloc_get _ _ _ (by simp)).trans (alloc_new w _)
  have b1 : W0.heap[w.heap.size + 1]? = some (.cells #[.int .u32 qa, .int .i64 ql] 68 (0, 0)) := by rw [← hW0]; have := alloc_new (w.alloc (.cells #[.int .u32 pa, .int .i64 pl] 68)) (.cells #[.int .u32 qa, .int .i64 ql] 68); simpa using this
  have G0 : Hid (Gr w W0) := Lib.hid (by rw [← hW0]; exact ((Gr.refl _).alloc _).alloc _)
  have p0 := blk_cell (i := 0) b0 rfl
  have p1 := blk_cell (i := 1) b0 rfl
  have q0 := blk_cell (i := 0) b1 rfl
  have q1 := blk_cell (i := 1) b1 rfl
  have HW0 := Lib.hid hW0
  have B0 := Lib.hid b0
  have B1 := Lib.hid b1
  clear hW0 b0 b1
  have FIN := Lib.hid (fun n => G0.out.trans ((Gr.refl W0).drewN n))
  by_cases h : ql < pl
  · rw [if_pos h] at C1 C2 ⊢
    have d : decide (ql < pl) = true := decide_eq_true h
    generalize keepI pa ql = k1 at *
    generalize keepI qa ql = k2 at *
    have E := eq1 k1 k2
    clear eq1 h
    go_enter Tryz.func25, Tryz.ntmps25
    go_upto_region 1 with fail
    rw [HW0.out]
    go_wp2_with fail
    go_quiet (first | (go_at_call 54; with_reducible exact quiet1 C1.out) | (go_at_call 54; with_reducible exact quiet1 C2.out))
    go_wp2_with fail
    go_ret
    exact ⟨rfl, FIN.out _⟩
  · rw [if_neg h] at C1 C2 ⊢
    have d : decide (ql < pl) = false := decide_eq_false h
    generalize keepI pa pl = k1 at *
    generalize keepI qa pl = k2 at *
    have E := eq1 k1 k2
    clear eq1 h
    go_enter Tryz.func25, Tryz.ntmps25
    go_upto_region 1 with fail
    rw [HW0.out]
    go_wp2_with fail
    go_quiet (first | (go_at_call 54; with_reducible exact quiet1 C1.out) | (go_at_call 54; with_reducible exact quiet1 C2.out))
    go_wp2_with fail
    go_ret
    exact ⟨rfl, FIN.out _⟩

end Go.Proofs.YtombnejipaoinaaGreat
