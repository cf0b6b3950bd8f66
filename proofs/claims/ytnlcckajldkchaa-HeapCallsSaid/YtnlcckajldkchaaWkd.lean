/-
  The walks through the method Drop of the heap, and through Pop.
-/
import Derived.Test.YtnlcckajldkchaaWkc
namespace Go.Proofs.Ytnlcckajldkchaa
open Go.RowKit

/-- the last item leaves -/
theorem Rep.cut {base : Nat → Prop} {hb pb kb : Nat} {w w' : World} {v : Value} {s : Hp.St} (r : Rep base hb pb kb w v s) {g cap : Nat} (hv : v = .slice (some ⟨g, 0, none⟩) s.items.length cap) (hl : 0 < s.items.length) (x : Nat)
    (h : w'.heap = ((w.setCell ⟨hb, 0, none⟩ (.slice (some ⟨g, 0, none⟩) (s.items.length - 1) cap)).setCell ⟨pb, x, none⟩ (.int .i64 (-1))).heap)
    (ho : w'.os = w.os) (ht : w'.tape = w.tape) (hp : w'.output = w.output) :
    Rep base hb pb kb w' (.slice (some ⟨g, 0, none⟩) (s.items.length - 1) cap) (Hp.cut s x) ∧ Fr base hb pb kb w w' := by
  obtain ⟨g', cap', cur, h1, h2, h3, h4, h5, h6, h7⟩ := r.it.row hl
  rw [hv] at h1
  simp only [Value.slice.injEq, Option.some.injEq, Addr.mk.injEq, and_true, true_and] at h1
  obtain ⟨rfl, rfl⟩ := h1
  have l1 := r.lo1; have l2 := r.lo2; have l3 := r.lo3
  have n1 := r.ne1; have n2 := r.ne2; have n3 := r.ne3
  have m1 : hb ≠ g := fun e => l1 (e ▸ h2)
  have m2 : pb ≠ g := fun e => l2 (e ▸ h2)
  have pl : (Hp.cut s x).place.length = s.place.length := by simp [Hp.cut]
  have il : (Hp.cut s x).items.length = s.items.length - 1 := by simp [Hp.cut]
  have sz : w'.heap.size = w.heap.size := by rw [h]; simp [World.setCell]
  refine ⟨⟨?_, ?_, ?_, ?_, l1, l2, l3, by rw [sz]; exact r.up, n1, n2, n3, by rw [pl]; exact r.small, by rw [pl, il]; have := r.len; omega, by rw [pl]; exact r.lk⟩, ho, ht, hp, by omega, ?_⟩
  · rw [h, blk_other _ _ _ _ (by exact n1), blk_set r.top, pl]; rfl
  · rw [h, blk_set (by rw [blk_other _ _ _ _ (by exact n1.symm)]; exact r.pl), ints_set]; rfl
  · rw [h, blk_other _ _ _ _ (by exact n3.symm), blk_other _ _ _ _ (by exact n2.symm)]; exact r.ky
  · refine ⟨⟨by simp [nats], .inr ⟨g, cap, cur, by rw [il], Nat.zero_le _, ?_, by rw [il]; omega, h5, by simp [h6], ?_⟩⟩, fun k hk => by simp [Value.ownBlock] at hk; subst hk; exact h2⟩
    · rw [h, blk_other _ _ _ _ (by exact m2.symm), blk_other _ _ _ _ (by exact m1.symm)]; exact h3
    · rw [Nat.mul_one, il]
      have : (cur.toList.take s.items.length).take (s.items.length - 1) = (nats s.items).take (s.items.length - 1) := by rw [h7]
      rw [List.take_take, Nat.min_eq_left (by omega)] at this
      rw [this]; simp [nats, Hp.cut, List.map_take]
  · intro k k1 k2 k3 k4
    rw [h, blk_other _ _ _ _ (by exact k3), blk_other _ _ _ _ (by exact k2)]

set_option maxHeartbeats 400000 in
theorem drop_no {base : Nat → Prop} {hb pb kb : Nat} {w : World} {v : Value} {s : Hp.St} (r : Rep base hb pb kb w v s) (x : Int) (h : x < 0 ∨ (s.place.length : Int) ≤ x ∨ s.place.getD x.toNat 0 < 0) :
    Calls Try.prog 16 #[.pointer (some ⟨hb, 0, none⟩), .int .i64 x] w fun e w' => e = .returned (.bool false) ∧ w = w' := by
  have H := Lib.hid h
  clear h
  go_enter Try.func16, Try.ntmps16
  go_wp2_with fail
  refine (has_no r x H.out).mono ?_
  rintro e w' ⟨rfl, rfl⟩
  go_wp2_with fail
  go_ret
  exact ⟨rfl, rfl⟩

set_option maxHeartbeats 400000 in
theorem drop_nil (x : Int) (w : World) :
    Calls Try.prog 16 #[.pointer none, .int .i64 x] w fun e w' => e = .returned (.bool false) ∧ w = w' := by
  go_enter Try.func16, Try.ntmps16
  go_wp2_with fail
  refine (has_nil x w).mono ?_
  rintro e w' ⟨rfl, rfl⟩
  go_wp2_with fail
  go_ret
  exact ⟨rfl, rfl⟩

theorem settle_at {base : Nat → Prop} {hb pb kb : Nat} {w : World} {v : Value} {s : Hp.St} (r : Rep base hb pb kb w v s) (f : Hp.Wf s) (i n : Int) (a : Nat) (hi : i = a) (hn : n = s.len) (ha : a < s.len) :
    Calls Try.prog 19 #[.int .i64 i, .int .i64 n, .func (.func 20) #[.pointer (some ⟨hb, 0, none⟩)] #[], .func (.func 21) #[.pointer (some ⟨hb, 0, none⟩)] #[]] w
      fun e w' => e = .returned (.tuple #[]) ∧ Rep base hb pb kb w' v (Hp.settle s a) ∧ Fr base hb pb kb w w' := by
  subst hi hn
  exact settle_rep r f a ha

/-- the place p of the item x, which is in the heap -/
structure At (s : Hp.St) (x p : Nat) : Prop where
  hx : x < s.place.length
  hp : s.place.getD x 0 = p
  hl : p < s.len
  hg : s.get p = x

set_option maxHeartbeats 1000000 in
theorem drop_yes {base : Nat → Prop} {hb pb kb : Nat} {w : World} {v : Value} {s : Hp.St} (r : Rep base hb pb kb w v s) (f : Hp.Wf s) (x p : Nat) (a : At s x p) :
    Calls Try.prog 16 #[.pointer (some ⟨hb, 0, none⟩), .int .i64 x] w fun e w' => e = .returned (.bool true) ∧ (∃ v', Rep base hb pb kb w' v' (Hp.drop s x)) ∧ Fr base hb pb kb w w' := by
  have hx := a.hx
  have hl : p < s.items.length := a.hl
  have h0 : 0 < s.items.length := by omega
  have sm := r.small
  have le := r.len
  have c1 := r.c1
  have cp := r.cp hx
  rw [a.hp] at cp
  obtain ⟨b0, c0, hv0⟩ := r.slice
  have cc0 := r.c0
  have HV := Lib.hid hv0
  rw [hv0] at cc0
  clear hv0
  have A := Lib.hid a
  have hx' : (x : Int) < (s.place.length : Int) := by omega
  have ls : (1 : Int) ≤ (s.len : Int) := by unfold Hp.St.len; omega
  have lsm : (s.len : Int) ≤ 65536 := by unfold Hp.St.len; omega
  clear a
  go_enter Try.func16, Try.ntmps16
  go_wp2_with fail
  refine (has_yes r x hx (by rw [A.out.hp]; omega)).mono ?_
  rintro e w' ⟨rfl, rfl⟩
  go_wp2_with fail
  go_quiet (fail)
  go_wp2_with fail
  refine (swap_at (r.drewN nq) f _ _ p (s.len - 1) (by omega) (by omega) A.out.hl (by omega)).mono ?_
  rintro e w1 ⟨rfl, r2, fr2⟩
  have F2 := Lib.hid (f.swap A.out.hl (show s.len - 1 < s.len by omega))
  have L2 := Lib.hid (Hp.swap_len s p (s.len - 1))
  have P2 := Lib.hid (Hp.swap_pl s p (s.len - 1))
  have G2 := Lib.hid (show (s.swap p (s.len - 1)).get (s.len - 1) = x by rw [Hp.swap_get s _ _ _ A.out.hl (by omega), if_pos rfl]; exact A.out.hg)
  have DR : Hid (Hp.drop s x = if p < s.len - 1 then Hp.settle (Hp.cut (s.swap p (s.len - 1)) x) p else Hp.cut (s.swap p (s.len - 1)) x) := Lib.hid (by unfold Hp.drop Hp.take; rw [A.out.hp, Int.toNat_natCast])
  obtain ⟨g, cap, hv, hg, hcap, _, _⟩ := r2.row (by have := L2.out; unfold Hp.St.len at *; omega)
  have HV2 := Lib.hid hv
  have hcap' : s.len ≤ cap := by rw [← L2.out]; exact hcap
  have d0 := r2.c0
  rw [hv, show (s.swap p (s.len - 1)).items.length = s.len from L2.out] at d0
  have d1 := r2.c1
  rw [P2.out] at d1
  have n1 := r2.ne1
  have f0 := blk_free r2.top 0
  have other : ∀ (W : World) (a : Addr) (u : Value) (k o : Nat), k ≠ a.block → (W.setCell a u).cell? ⟨k, o, none⟩ = W.cell? ⟨k, o, none⟩ := fun W a u k o h => World.cell?_of_block (blk_other W a u k h)
  have d1' : (w1.setCell ⟨hb, 0, none⟩ (.slice (some ⟨g, 0, none⟩) (s.len - 1) cap)).cell? ⟨hb, 1, none⟩ = some (.slice (some ⟨pb, 0, none⟩) s.place.length s.place.length) := by
    have := blk_cell (i := 1) (blk_set r2.top 0 (.slice (some ⟨g, 0, none⟩) (s.len - 1) cap)) rfl
    rw [P2.out] at this; exact this
  have dp := (other w1 ⟨hb, 0, none⟩ (.slice (some ⟨g, 0, none⟩) (s.len - 1) cap) pb x n1.symm).trans (r2.cp (by rw [P2.out]; exact hx))
  have fp := blk_free r2.pl x
  have cl : (Hp.cut (s.swap p (s.len - 1)) x).len = s.len - 1 := by rw [Hp.len_cut, L2.out]
  have CL := Lib.hid cl
  have WF3 : Hp.Wf (Hp.cut (s.swap p (s.len - 1)) x) := by
    have := F2.out.cut (by rw [L2.out]; omega); rw [L2.out, G2.out] at this; exact this
  have RC := r2.cut hv (by have := L2.out; unfold Hp.St.len at *; omega) x (w' := (w1.setCell ⟨hb, 0, none⟩ (.slice (some ⟨g, 0, none⟩) (s.len - 1) cap)).setCell ⟨pb, x, none⟩ (.int .i64 (-1)))
    (by rw [show (s.swap p (s.len - 1)).items.length = s.len from L2.out]) rfl rfl rfl
  have fr3 := ((Fr.refl base hb pb kb w).drewN nq).trans (fr2.trans RC.2)
  have r3 := RC.1
  clear hv other c1 cp cc0 n1 cl RC
  go_wp2_with fail
  · have lt : p < s.len - 1 := by omega
    refine (settle_at r3 WF3 _ _ p rfl (by rw [CL.out]; omega) (by rw [CL.out]; omega)).mono ?_
    rintro e w3 ⟨rfl, r4, fr4⟩
    have RES : (∃ v', Rep base hb pb kb w3 v' (Hp.drop s x)) ∧ Fr base hb pb kb w w3 := by
      rw [DR.out, if_pos lt]; exact ⟨⟨_, r4⟩, fr3.trans fr4⟩
    clear r4 fr4
    go_wp2_with fail
    go_ret
    exact ⟨rfl, RES⟩
  · have lt : ¬ p < s.len - 1 := by omega
    go_ret
    exact ⟨rfl, by rw [DR.out, if_neg lt]; exact ⟨_, r3⟩, fr3⟩

end Go.Proofs.Ytnlcckajldkchaa
