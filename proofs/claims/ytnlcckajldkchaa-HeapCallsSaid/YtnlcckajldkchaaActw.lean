/-
  The walk through 'act'.
-/
import Derived.Test.YtnlcckajldkchaaCal
namespace Go.Proofs.Ytnlcckajldkchaa
open Go.RowKit

/-- what is known inside 'act', once its argument lies in a block X of its own -/
structure In (base own : Nat → Prop) (hb pb kb rb ib rk : Nat) (w W : World) (t : Hp.Tb) (kd it ke : Int) : Prop where
  T : Two own hb pb kb rb ib rk W t
  x : ∀ W', Fr6 own hb pb kb ib rk W W' → W'.cell? ⟨w.heap.size, 0, none⟩ = some (.int .i64 kd) ∧ W'.cell? ⟨w.heap.size, 1, none⟩ = some (.int .i64 it) ∧ W'.cell? ⟨w.heap.size, 2, none⟩ = some (.int .i64 ke)
  back : ∀ t' W', Two own hb pb kb rb ib rk W' t' → Fr6 own hb pb kb ib rk W W' → ActPost base hb pb kb rb ib rk w (.returned (.bool true)) W'

theorem In.mk' {base : Nat → Prop} {hb pb kb rb ib rk : Nat} {w : World} {t : Hp.Tb} (T : Two base hb pb kb rb ib rk w t) (kd it ke : Int) :
    ∃ own, In base own hb pb kb rb ib rk w (w.alloc (.cells #[.int .i64 kd, .int .i64 it, .int .i64 ke] 35)) t kd it ke := by
  refine ⟨fun k => base k ∧ k ≠ w.heap.size, T.avoid _, fun W' f => ?_, fun t' W' T' f => ⟨rfl, act_back T T' f⟩⟩
  have l1 := T.ht
  obtain ⟨v, s, r, R⟩ := l1
  have e := (f.block w.heap.size (fun h => h.2 rfl) (fun e => by have := blk_lt r.top; omega) (fun e => by have := blk_lt r.pl; omega) (fun e => by have := blk_lt r.ky; omega) (fun e => by have := blk_lt T.rt.ins; omega) (fun e => by have := blk_lt T.rt.ky; omega)).trans (MapKept.heap_alloc w _).1
  exact ⟨blk_cell e rfl, blk_cell e rfl, blk_cell e rfl⟩

theorem Fr6.refl (base : Nat → Prop) (hb pb kb ib rk : Nat) (w : World) : Fr6 base hb pb kb ib rk w w := ⟨rfl, rfl, rfl, Nat.le_refl _, fun _ _ _ _ _ _ _ => rfl⟩

/-- behind a call of the table's the heap is as it was, whatever it holds -/
theorem Two.keepH' {base : Nat → Prop} {hb pb kb rb ib rk : Nat} {w w1 w' : World} {t t1 : Hp.Tb} (T : Two base hb pb kb rb ib rk w t) (h : HT base hb pb kb w1 t1) (f : FrT ib rk w1 w') : HT base hb pb kb w' t1 :=
  h.other (by rw [f.size]; exact Nat.le_refl _) fun k hk _ => by
    obtain ⟨y1, y2, y3, y4⟩ := T.a2; obtain ⟨z1, z2, z3, z4⟩ := T.a3
    rcases hk with rfl | rfl | rfl | hk
    · exact f.block _ y1.symm z1.symm
    · exact f.block _ y2.symm z2.symm
    · exact f.block _ y3.symm z3.symm
    · exact f.block _ (fun e => y4 (e ▸ hk)) (fun e => z4 (e ▸ hk))
theorem Two.keepR' {base : Nat → Prop} {hb pb kb rb ib rk : Nat} {w w1 w' : World} {t t1 : Hp.Tb} (T : Two base hb pb kb rb ib rk w t) (r : RT rb ib rk w1 t1) (f : Fr base hb pb kb w1 w') : RT rb ib rk w' t1 :=
  r.other fun k hk => by
    obtain ⟨x1, x2, x3, x4⟩ := T.a1; obtain ⟨y1, y2, y3, y4⟩ := T.a2; obtain ⟨z1, z2, z3, z4⟩ := T.a3
    rcases hk with rfl | rfl | rfl
    · exact f.block _ x4 x1 x2 x3
    · exact f.block _ y4 y1 y2 y3
    · exact f.block _ z4 z1 z2 z3

set_option maxHeartbeats 1000000 in
theorem act_pop {base own : Nat → Prop} {hb pb kb rb ib rk : Nat} {w : World} {t : Hp.Tb} (it ke : Int) (I : In base own hb pb kb rb ib rk w (w.alloc (.cells #[.int .i64 0, .int .i64 it, .int .i64 ke] 35)) t 0 it ke) :
    Calls Try.prog 14 #[.pointer (some ⟨hb, 0, none⟩), .pointer (some ⟨rb, 0, none⟩), .agg #[.int .i64 0, .int .i64 it, .int .i64 ke]] w (ActPost base hb pb kb rb ib rk w) := by
  obtain ⟨a, b, c, e0⟩ : ∃ a b c, tmin t = (a, b, c) := ⟨_, _, _, rfl⟩
  have TR : Hid (trip (tmin t) = .tuple #[.int .i64 (a : Nat), .int .i64 b, .bool c]) := Lib.hid (by rw [e0]; rfl)
  clear e0
  go_enter Try.func14, Try.ntmps14
  go_wp2_with fail
  refine (hpop I.T.ht).mono ?_
  rintro e w1 ⟨rfl, h1, f1⟩
  rw [TR.out]
  have r1 := I.T.keepR f1
  go_wp2_with fail
  refine (rpop r1).mono ?_
  rintro e w2 ⟨rfl, r2, g2⟩
  rw [TR.out]
  have PO := Lib.hid (I.back _ _ (I.T.mk2 (I.T.keepH' h1 g2) r2) ((f1.six ib rk).trans (g2.six own hb pb kb)))
  clear h1 f1 r1 r2 g2
  go_wp2_with fail
  go_ret
  exact PO.out

end Go.Proofs.Ytnlcckajldkchaa
