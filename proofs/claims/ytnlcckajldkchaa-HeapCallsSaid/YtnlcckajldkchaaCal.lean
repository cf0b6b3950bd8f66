/-
  The walk through 'act': a call on the heap and on the reference.
-/
import Derived.Test.YtnlcckajldkchaaRwk
import Derived.Test.YtnlcckajldkchaaHlow
import Derived.Deep.RegionWith
namespace Go.Proofs.Ytnlcckajldkchaa
open Go.RowKit

/-- a heap and a table in memory, apart, that answer alike -/
structure Two (base : Nat → Prop) (hb pb kb rb ib rk : Nat) (w : World) (t : Hp.Tb) : Prop where
  ht : HT base hb pb kb w t
  rt : RT rb ib rk w t
  a1 : rb ≠ hb ∧ rb ≠ pb ∧ rb ≠ kb ∧ ¬ base rb
  a2 : ib ≠ hb ∧ ib ≠ pb ∧ ib ≠ kb ∧ ¬ base ib
  a3 : rk ≠ hb ∧ rk ≠ pb ∧ rk ≠ kb ∧ ¬ base rk

/-- what may have turned -/
structure Fr6 (base : Nat → Prop) (hb pb kb ib rk : Nat) (w w' : World) : Prop where
  os : w'.os = w.os
  tape : w'.tape = w.tape
  output : w'.output = w.output
  size : w.heap.size ≤ w'.heap.size
  block : ∀ k, ¬ base k → k ≠ hb → k ≠ pb → k ≠ kb → k ≠ ib → k ≠ rk → w'.heap[k]? = w.heap[k]?

theorem Fr.six {base : Nat → Prop} {hb pb kb : Nat} {w w' : World} (f : Fr base hb pb kb w w') (ib rk : Nat) : Fr6 base hb pb kb ib rk w w' := ⟨f.os, f.tape, f.output, f.size, fun k h1 h2 h3 h4 _ _ => f.block k h1 h2 h3 h4⟩
theorem FrT.six {ib rk : Nat} {w w' : World} (f : FrT ib rk w w') (base : Nat → Prop) (hb pb kb : Nat) : Fr6 base hb pb kb ib rk w w' := ⟨f.os, f.tape, f.output, by rw [f.size]; exact Nat.le_refl _, fun k _ _ _ _ h1 h2 => f.block k h1 h2⟩
theorem Fr6.trans {base : Nat → Prop} {hb pb kb ib rk : Nat} {a b c : World} (x : Fr6 base hb pb kb ib rk a b) (y : Fr6 base hb pb kb ib rk b c) : Fr6 base hb pb kb ib rk a c :=
  ⟨y.os.trans x.os, y.tape.trans x.tape, y.output.trans x.output, Nat.le_trans x.size y.size, fun k h1 h2 h3 h4 h5 h6 => (y.block k h1 h2 h3 h4 h5 h6).trans (x.block k h1 h2 h3 h4 h5 h6)⟩
theorem Fr6.ofdrew {base : Nat → Prop} {hb pb kb ib rk : Nat} {w w' : World} (x : Fr6 base hb pb kb ib rk w.drew w') : Fr6 base hb pb kb ib rk w w' := ⟨x.os, x.tape, x.output, x.size, x.block⟩

/-- behind a call of the heap's the table is as it was -/
theorem Two.keepR {base : Nat → Prop} {hb pb kb rb ib rk : Nat} {w w' : World} {t : Hp.Tb} (T : Two base hb pb kb rb ib rk w t) (f : Fr base hb pb kb w w') : RT rb ib rk w' t :=
  T.rt.other fun k hk => by
    obtain ⟨x1, x2, x3, x4⟩ := T.a1; obtain ⟨y1, y2, y3, y4⟩ := T.a2; obtain ⟨z1, z2, z3, z4⟩ := T.a3
    rcases hk with rfl | rfl | rfl
    · exact f.block _ x4 x1 x2 x3
    · exact f.block _ y4 y1 y2 y3
    · exact f.block _ z4 z1 z2 z3
/-- behind a call of the table's the heap is as it was -/
theorem Two.keepH {base : Nat → Prop} {hb pb kb rb ib rk : Nat} {w w' : World} {t : Hp.Tb} (T : Two base hb pb kb rb ib rk w t) (f : FrT ib rk w w') : HT base hb pb kb w' t :=
  T.ht.other (by rw [f.size]; exact Nat.le_refl _) fun k hk _ => by
    obtain ⟨y1, y2, y3, y4⟩ := T.a2; obtain ⟨z1, z2, z3, z4⟩ := T.a3
    rcases hk with rfl | rfl | rfl | hk
    · exact f.block _ y1.symm z1.symm
    · exact f.block _ y2.symm z2.symm
    · exact f.block _ y3.symm z3.symm
    · exact f.block _ (fun e => y4 (e ▸ hk)) (fun e => z4 (e ▸ hk))
theorem Two.mk2 {base : Nat → Prop} {hb pb kb rb ib rk : Nat} {w w' : World} {t t' : Hp.Tb} (T : Two base hb pb kb rb ib rk w t) (h : HT base hb pb kb w' t') (r : RT rb ib rk w' t') : Two base hb pb kb rb ib rk w' t' := ⟨h, r, T.a1, T.a2, T.a3⟩
theorem Two.heap {base : Nat → Prop} {hb pb kb rb ib rk : Nat} {w w' : World} {t : Hp.Tb} (T : Two base hb pb kb rb ib rk w t) (e : w'.heap = w.heap) : Two base hb pb kb rb ib rk w' t := ⟨T.ht.heap e, T.rt.other fun k _ => by rw [e], T.a1, T.a2, T.a3⟩

/-- a new block: the items stay out of it -/
theorem HT.avoid {base : Nat → Prop} {hb pb kb : Nat} {w : World} {t : Hp.Tb} (h : HT base hb pb kb w t) (o : Obj) : HT (fun k => base k ∧ k ≠ w.heap.size) hb pb kb (w.alloc o) t := by
  have a := h.alloc o
  obtain ⟨v, s, r, R⟩ := h
  obtain ⟨p1, p2, p3, p4⟩ := a.lo
  have r1 : Rep base hb pb kb (w.alloc o) v s := r.other (by simp) fun k hk => alloc_get _ _ _ (by
    rcases hk with rfl | rfl | rfl | hk
    · exact blk_lt r.top
    · exact blk_lt r.pl
    · exact blk_lt r.ky
    · exact r.it.lt k hk)
  exact ⟨v, s, ⟨r1.top, r1.pl, r1.ky, ⟨r1.it.1, fun k hk => ⟨r1.it.2 k hk, fun e => by have := r.it.lt k hk; omega⟩⟩, fun h => p1 h.1, fun h => p2 h.1, fun h => p3 h.1, fun k hk => ⟨p4 k hk, fun e => by simp at hk; omega⟩, r.ne1, r.ne2, r.ne3, r.small, r.len, r.lk⟩, R⟩

theorem Two.avoid {base : Nat → Prop} {hb pb kb rb ib rk : Nat} {w : World} {t : Hp.Tb} (T : Two base hb pb kb rb ib rk w t) (o : Obj) : Two (fun k => base k ∧ k ≠ w.heap.size) hb pb kb rb ib rk (w.alloc o) t :=
  ⟨T.ht.avoid o, T.rt.other fun k hk => alloc_get _ _ _ (by
    rcases hk with rfl | rfl | rfl
    · exact blk_lt T.rt.top
    · exact blk_lt T.rt.ins
    · exact blk_lt T.rt.ky), ⟨T.a1.1, T.a1.2.1, T.a1.2.2.1, fun h => T.a1.2.2.2 h.1⟩, ⟨T.a2.1, T.a2.2.1, T.a2.2.2.1, fun h => T.a2.2.2.2 h.1⟩, ⟨T.a3.1, T.a3.2.1, T.a3.2.2.1, fun h => T.a3.2.2.2 h.1⟩⟩

def ActPost (base : Nat → Prop) (hb pb kb rb ib rk : Nat) (w : World) (e : Ending) (w' : World) : Prop :=
  e = .returned (.bool true) ∧ (∃ t', Two base hb pb kb rb ib rk w' t') ∧ Fr6 base hb pb kb ib rk w w'

/-- back from the blocks without the new one -/
theorem act_back {base : Nat → Prop} {hb pb kb rb ib rk : Nat} {w w' : World} {t t' : Hp.Tb} {o : Obj} (T : Two base hb pb kb rb ib rk w t) (T' : Two (fun k => base k ∧ k ≠ w.heap.size) hb pb kb rb ib rk w' t')
    (f : Fr6 (fun k => base k ∧ k ≠ w.heap.size) hb pb kb ib rk (w.alloc o) w') : (∃ t', Two base hb pb kb rb ib rk w' t') ∧ Fr6 base hb pb kb ib rk w w' := by
  obtain ⟨l1, l2, l3, l4⟩ := T.ht.lo
  refine ⟨⟨t', ⟨T'.ht.to (fun k _ h => h.1) (fun k hk => (T'.ht.lo.2.2.2 k hk).1) l1 l2 l3, T'.rt, T.a1, T.a2, T.a3⟩⟩, f.os, f.tape, f.output, ?_, fun k h1 h2 h3 h4 h5 h6 => ?_⟩
  · have := f.size; simp at this; omega
  · have hk : k < w.heap.size := by
      rcases Nat.lt_or_ge k w.heap.size with h | h
      · exact h
      · exact absurd (l4 k h) h1
    rw [f.block k (fun h => h1 h.1) h2 h3 h4 h5 h6, alloc_get _ _ _ hk]

end Go.Proofs.Ytnlcckajldkchaa
