/-
  The walks through the methods less, swap, has and Len of the heap.
-/
import Derived.Test.YtnlcckajldkchaaRep
import Derived.WalkLawsBesides
import Derived.Deep.QuietTactic
import Derived.BigQuiet
import Derived.BigRegion
import Derived.ChangeAlike
import Derived.Lib.Hide
namespace Go.Proofs.Ytnlcckajldkchaa
open Go.RowKit

theorem drew2 (w : World) (a b : Nat) : ∃ n, (w.drewN a).drewN b = w.drewN n := ⟨a + b, by simp [World.drewN, Nat.add_assoc]⟩

set_option maxHeartbeats 400000 in
theorem less_walk (hb ib kb : Nat) (n c nk ck : Nat) (i j : Int) (w : World) (a b : Nat) (ka kbb : Int) (o : Bool)
    (h0 : w.cell? ⟨hb, 0, none⟩ = some (.slice (some ⟨ib, 0, none⟩) n c))
    (h2 : w.cell? ⟨hb, 2, none⟩ = some (.slice (some ⟨kb, 0, none⟩) nk ck))
    (hi : 0 ≤ i) (hi2 : i < n) (hj : 0 ≤ j) (hj2 : j < n)
    (ha : a < nk) (hbb : b < nk)
    (g1 : w.cell? ⟨ib, i.toNat, none⟩ = some (.int .i64 a))
    (g2 : w.cell? ⟨ib, j.toNat, none⟩ = some (.int .i64 b))
    (g3 : w.cell? ⟨kb, a, none⟩ = some (.int .i64 ka))
    (g4 : w.cell? ⟨kb, b, none⟩ = some (.int .i64 kbb))
    (ho : Hp.ltB ka kbb a b = o) :
    Calls Try.prog 20 #[.pointer (some ⟨hb, 0, none⟩), .int .i64 i, .int .i64 j] w fun e w' => e = .returned (.bool o) ∧ ∃ n, w' = w.drewN n := by
  have HO := Lib.hid ho
  clear ho
  by_cases c1 : ka < kbb
  · have d1 : decide (ka < kbb) = true := by simpa using c1
    obtain rfl : o = true := by rw [← HO.out]; simp [Hp.ltB, c1]
    clear HO
    go_enter Try.func20, Try.ntmps20
    go_wp2
    go_quiet (fail)
    go_wp2
    go_quiet (fail)
    go_wp2
    go_ret
    exact ⟨rfl, drew2 ..⟩
  · have d1 : decide (ka < kbb) = false := by simpa using c1
    by_cases c2 : ka = kbb
    · have d2 : (ka == kbb) = true := by simpa using c2
      have HO2 : o = decide (a < b) := by rw [← HO.out]; simp [Hp.ltB, c2]
      clear HO
      subst HO2
      have C2 := Lib.hid c2
      clear c2
      go_enter Try.func20, Try.ntmps20
      go_wp2
      go_quiet (fail)
      go_wp2
      go_quiet (fail)
      go_wp2
      go_ret
      exact ⟨rfl, drew2 ..⟩
    · have d2 : (ka == kbb) = false := by simpa using c2
      obtain rfl : o = false := by rw [← HO.out]; simp [Hp.ltB, c1, c2]
      clear HO
      go_enter Try.func20, Try.ntmps20
      go_wp2
      go_quiet (fail)
      go_wp2
      go_quiet (fail)
      go_wp2
      go_ret
      exact ⟨rfl, drew2 ..⟩

theorem less_rep {base : Nat → Prop} {hb pb kb : Nat} {w : World} {v : Value} {s : Hp.St} (r : Rep base hb pb kb w v s) (f : Hp.Wf s) (i j : Int) (hi : 0 ≤ i) (hi2 : i < s.len) (hj : 0 ≤ j) (hj2 : j < s.len) :
    Calls Try.prog 20 #[.pointer (some ⟨hb, 0, none⟩), .int .i64 i, .int .i64 j] w fun e w' => e = .returned (.bool (s.less i.toNat j.toNat)) ∧ ∃ n, w' = w.drewN n := by
  have hl : 0 < s.items.length := by unfold Hp.St.len at *; omega
  obtain ⟨g, cap, hv, _, _, hc, _⟩ := r.row hl
  have c0 := r.c0
  rw [hv] at c0
  have p1 := f.inr i.toNat (by omega)
  have p2 := f.inr j.toNat (by omega)
  exact less_walk hb g kb _ _ _ _ i j w _ _ _ _ _ c0 r.c2 hi hi2 hj hj2 p1 p2 (hc _ (by unfold Hp.St.len at *; omega)) (hc _ (by unfold Hp.St.len at *; omega)) (r.ck p1) (r.ck p2) rfl

set_option maxHeartbeats 1000000 in
theorem swap_walk (hb : Nat) (ib pb : Nat) (n c np cp : Nat) (i j : Nat) (w : World) (a b : Nat)
    (h0 : w.cell? ⟨hb, 0, none⟩ = some (.slice (some ⟨ib, 0, none⟩) n c))
    (hi2 : i < n) (hj2 : j < n)
    (ha : a < np) (hbb : b < np)
    (g1 : w.cell? ⟨ib, i, none⟩ = some (.int .i64 a))
    (g2 : w.cell? ⟨ib, j, none⟩ = some (.int .i64 b))
    (f1 : w.frozen? ⟨ib, i, none⟩ = false)
    (f2 : w.frozen? ⟨ib, j, none⟩ = false)
    (u : Value) (hu : (w.setCell ⟨ib, i, none⟩ (.int .i64 b)).cell? ⟨ib, j, none⟩ = some u)
    (k0 : ((w.setCell ⟨ib, i, none⟩ (.int .i64 b)).setCell ⟨ib, j, none⟩ (.int .i64 a)).cell? ⟨hb, 0, none⟩ = some (.slice (some ⟨ib, 0, none⟩) n c))
    (k1 : ((w.setCell ⟨ib, i, none⟩ (.int .i64 b)).setCell ⟨ib, j, none⟩ (.int .i64 a)).cell? ⟨hb, 1, none⟩ = some (.slice (some ⟨pb, 0, none⟩) np cp))
    (k2 : ((w.setCell ⟨ib, i, none⟩ (.int .i64 b)).setCell ⟨ib, j, none⟩ (.int .i64 a)).cell? ⟨ib, i, none⟩ = some (.int .i64 b))
    (k3 : ((w.setCell ⟨ib, i, none⟩ (.int .i64 b)).setCell ⟨ib, j, none⟩ (.int .i64 a)).cell? ⟨ib, j, none⟩ = some (.int .i64 a))
    (v1 v2 : Value)
    (k4 : ((w.setCell ⟨ib, i, none⟩ (.int .i64 b)).setCell ⟨ib, j, none⟩ (.int .i64 a)).cell? ⟨pb, b, none⟩ = some v1)
    (k5 : (((w.setCell ⟨ib, i, none⟩ (.int .i64 b)).setCell ⟨ib, j, none⟩ (.int .i64 a)).setCell ⟨pb, b, none⟩ (.int .i64 i)).cell? ⟨pb, a, none⟩ = some v2)
    (f3 : w.frozen? ⟨pb, a, none⟩ = false)
    (f4 : w.frozen? ⟨pb, b, none⟩ = false) :
    Calls Try.prog 21 #[.pointer (some ⟨hb, 0, none⟩), .int .i64 i, .int .i64 j] w fun e w' => e = .returned (.tuple #[]) ∧ w'.heap = ((((w.setCell ⟨ib, i, none⟩ (.int .i64 b)).setCell ⟨ib, j, none⟩ (.int .i64 a)).setCell ⟨pb, b, none⟩ (.int .i64 i)).setCell ⟨pb, a, none⟩ (.int .i64 j)).heap ∧ w'.os = w.os ∧ w'.tape = w.tape ∧ w'.output = w.output := by
  go_enter Try.func21, Try.ntmps21
  go_wp2
  go_region
  go_wp2
  go_region
  all_goals (go_end0; exact ⟨rfl, rfl, rfl, rfl, rfl⟩)

theorem cell_set_some {w : World} {a : Addr} {x : Value} {q : Addr} {y : Value} (h : w.cell? q = some y) : ∃ u, (w.setCell a x).cell? q = some u := by
  obtain ⟨u, hu⟩ := cell?_setCell_some (w := w) (p := a) (x := x) (q := q) (v := y) h
  exact ⟨u, hu⟩

theorem swap_rep {base : Nat → Prop} {hb pb kb : Nat} {w : World} {v : Value} {s : Hp.St} (r : Rep base hb pb kb w v s) (f : Hp.Wf s) (i j : Int) (hi : 0 ≤ i) (hi2 : i < s.len) (hj : 0 ≤ j) (hj2 : j < s.len) :
    Calls Try.prog 21 #[.pointer (some ⟨hb, 0, none⟩), .int .i64 i, .int .i64 j] w fun e w' => e = .returned (.tuple #[]) ∧ Rep base hb pb kb w' v (s.swap i.toNat j.toNat) ∧ Fr base hb pb kb w w' := by
  obtain ⟨i, rfl⟩ := Int.eq_ofNat_of_zero_le hi
  obtain ⟨j, rfl⟩ := Int.eq_ofNat_of_zero_le hj
  simp only [Int.toNat_natCast]
  have hi2 : i < s.items.length := by unfold Hp.St.len at hi2; omega
  have hj2 : j < s.items.length := by unfold Hp.St.len at hj2; omega
  have hl : 0 < s.items.length := by omega
  obtain ⟨g, cap, hv, hg, _, hc, hf⟩ := r.row hl
  have c0 := r.c0
  rw [hv] at c0
  have p1 := f.inr i hi2
  have p2 := f.inr j hj2
  have l1 := r.lo1; have l2 := r.lo2
  have n1 : hb ≠ g := fun e => l1 (e ▸ hg)
  have n2 : pb ≠ g := fun e => l2 (e ▸ hg)
  have e1 : ∀ (a : Addr) (u : Value) (k o : Nat), k ≠ a.block → (w.setCell a u).cell? ⟨k, o, none⟩ = w.cell? ⟨k, o, none⟩ := fun a u k o h => World.cell?_of_block (blk_other w a u k h)
  have other : ∀ (W : World) (a : Addr) (u : Value) (k o : Nat), k ≠ a.block → (W.setCell a u).cell? ⟨k, o, none⟩ = W.cell? ⟨k, o, none⟩ := fun W a u k o h => World.cell?_of_block (blk_other W a u k h)
  obtain ⟨g', cap', cur, hv', _, h3, _, _, h6, h7⟩ := r.it.row hl
  rw [hv] at hv'
  simp only [Value.slice.injEq, Option.some.injEq, Addr.mk.injEq, and_true, true_and] at hv'
  obtain ⟨rfl, rfl⟩ := hv'
  have big : s.items.length ≤ cur.size := by have := congrArg List.length h7; simp [nats] at this; omega
  have s1 := blk_set h3 i (.int .i64 (s.get j : Nat))
  have s2 := blk_set s1 j (.int .i64 (s.get i : Nat))
  have t1 := take_set h7 i (s.get j)
  have t2 := take_set t1 j (s.get i)
  have y1 := take_get t2 (i := i) (by simpa using hi2)
  have y2 := take_get t2 (i := j) (by simpa using hj2)
  have z1 := Hp.swap_get s i j i hi2 hj2
  have z2 := Hp.swap_get s i j j hi2 hj2
  rw [if_pos rfl] at z2
  have z1' : (s.swap i j).get i = s.get j := by rw [z1]; split <;> simp_all
  have k4 := (other (w.setCell ⟨g, i, none⟩ (.int .i64 (s.get j : Nat))) ⟨g, j, none⟩ (.int .i64 (s.get i : Nat)) pb (s.get j) n2).trans ((other w ⟨g, i, none⟩ (.int .i64 (s.get j : Nat)) pb (s.get j) n2).trans (r.cp p2))
  have k4' := (other (w.setCell ⟨g, i, none⟩ (.int .i64 (s.get j : Nat))) ⟨g, j, none⟩ (.int .i64 (s.get i : Nat)) pb (s.get i) n2).trans ((other w ⟨g, i, none⟩ (.int .i64 (s.get j : Nat)) pb (s.get i) n2).trans (r.cp p1))
  obtain ⟨u, hu⟩ := cell_set_some (a := ⟨g, i, none⟩) (x := .int .i64 (s.get j : Nat)) (hc j hj2)
  obtain ⟨v2, k5⟩ := cell_set_some (a := ⟨pb, s.get j, none⟩) (x := .int .i64 i) k4'
  refine (swap_walk hb g pb _ _ _ _ i j w (s.get i) (s.get j) c0 hi2 hj2 p1 p2 (hc i hi2) (hc j hj2) (hf i) (hf j) u hu
    ((other _ _ _ _ _ n1).trans ((other _ _ _ _ _ n1).trans c0)) ((other _ _ _ _ _ n1).trans ((other _ _ _ _ _ n1).trans r.c1)) ?_ ?_ _ v2 k4 k5 (blk_free r.pl _) (blk_free r.pl _)).mono ?_
  · have := blk_cell s2 y1
    rw [show ((s.items.set i (s.get j)).set j (s.get i)).getD i 0 = (s.swap i j).get i from rfl, z1'] at this; exact this
  · have := blk_cell s2 y2
    rw [show ((s.items.set i (s.get j)).set j (s.get i)).getD j 0 = (s.swap i j).get j from rfl, z2] at this; exact this
  · rintro e w' ⟨rfl, a1, a2, a3, a4⟩
    exact ⟨rfl, r.swap hv hl a1 a2 a3 a4⟩

set_option maxHeartbeats 400000 in
theorem has_walk (hb : Nat) (pb : Nat) (n c : Nat) (it : Int) (w : World)
    (h1 : w.cell? ⟨hb, 1, none⟩ = some (.slice (some ⟨pb, 0, none⟩) n c))
    (z : Int) (hit : 0 ≤ it) (hit2 : it < n) (hz : w.cell? ⟨pb, it.toNat, none⟩ = some (.int .i64 z)) :
    Calls Try.prog 27 #[.pointer (some ⟨hb, 0, none⟩), .int .i64 it] w fun e w' => e = .returned (.bool (decide (0 ≤ z))) ∧ w = w' := by
  go_enter Try.func27, Try.ntmps27
  go_wp2
  go_ret
  exact ⟨rfl, rfl⟩

set_option maxHeartbeats 400000 in
theorem has_out (hb : Nat) (pb : Nat) (n c : Nat) (it : Int) (w : World)
    (h1 : w.cell? ⟨hb, 1, none⟩ = some (.slice (some ⟨pb, 0, none⟩) n c))
    (hit : it < 0 ∨ n ≤ it) :
    Calls Try.prog 27 #[.pointer (some ⟨hb, 0, none⟩), .int .i64 it] w fun e w' => e = .returned (.bool false) ∧ w = w' := by
  rcases hit with h | h
  · go_enter Try.func27, Try.ntmps27
    go_wp2
    go_ret
    exact ⟨rfl, rfl⟩
  · have h2 : (0 : Int) ≤ it := by omega
    go_enter Try.func27, Try.ntmps27
    go_wp2
    go_ret
    exact ⟨rfl, rfl⟩

set_option maxHeartbeats 400000 in
theorem has_nil (it : Int) (w : World) :
    Calls Try.prog 27 #[.pointer none, .int .i64 it] w fun e w' => e = .returned (.bool false) ∧ w = w' := by
  go_enter Try.func27, Try.ntmps27
  go_wp2
  go_ret
  exact ⟨rfl, rfl⟩

set_option maxHeartbeats 400000 in
theorem len_nil (w : World) :
    Calls Try.prog 12 #[.pointer none] w fun e w' => e = .returned (.int .i64 0) ∧ w = w' := by
  go_enter Try.func12, Try.ntmps12
  go_wp2
  go_ret
  exact ⟨rfl, rfl⟩

set_option maxHeartbeats 400000 in
theorem len_walk (hb : Nat) (a : Option Addr) (n c : Nat) (w : World) (h0 : w.cell? ⟨hb, 0, none⟩ = some (.slice a n c)) :
    Calls Try.prog 12 #[.pointer (some ⟨hb, 0, none⟩)] w fun e w' => e = .returned (.int .i64 n) ∧ w = w' := by
  go_enter Try.func12, Try.ntmps12
  go_wp2
  go_ret
  exact ⟨rfl, rfl⟩

theorem Rep.slice {base : Nat → Prop} {hb pb kb : Nat} {w : World} {v : Value} {s : Hp.St} (r : Rep base hb pb kb w v s) : ∃ a c, v = .slice a s.len c := by
  obtain ⟨⟨_, h⟩, _⟩ := r.it
  rcases h with ⟨h1, h2⟩ | ⟨g, cap, cur, h, _⟩
  · exact ⟨none, 0, by rw [h1]; unfold Hp.St.len; rw [h2]⟩
  · exact ⟨_, _, h⟩

theorem len_rep {base : Nat → Prop} {hb pb kb : Nat} {w : World} {v : Value} {s : Hp.St} (r : Rep base hb pb kb w v s) :
    Calls Try.prog 12 #[.pointer (some ⟨hb, 0, none⟩)] w fun e w' => e = .returned (.int .i64 (s.len : Nat)) ∧ w = w' := by
  obtain ⟨a, c, hv⟩ := r.slice
  have c0 := r.c0
  rw [hv] at c0
  exact len_walk hb a _ c w c0

end Go.Proofs.Ytnlcckajldkchaa
