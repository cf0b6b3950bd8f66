/- The walk through HeapLowers. -/
import Derived.Test.YtnlcckajldkchaaSrt
import Derived.Test.YtnlcckajldkchaaStay
import Derived.Deep.RegionWith
import Derived.Laws.Rows
namespace Go.Proofs.Ytnlcckajldkchaa
open Go.ChangeShapes Go.WideShapes Go.ChangeAt Go.RowKit

structure ActV where
  kind : Int
  item : Int
  key : Int

/-- the cells of the argument -/
def Acts (w : World) (a : Option Addr) (l : List ActV) : Prop := 0 < l.length → ∃ b off, a = some ⟨b, off, none⟩ ∧ b < w.heap.size ∧
  ∀ i (h : i < l.length), w.cell? ⟨b, off + i * 3, none⟩ = some (.int .i64 l[i].kind) ∧ w.cell? ⟨b, off + i * 3 + 1, none⟩ = some (.int .i64 l[i].item) ∧ w.cell? ⟨b, off + i * 3 + 2, none⟩ = some (.int .i64 l[i].key)

set_option maxHeartbeats 400000 in
theorem heapLowers_long (a : Option Addr) (len cap : Nat) (h : 200 < len) (w : World) : Calls Try.prog 5 #[.slice a len cap] w fun e w' => e = .returned (.bool true) ∧ Below w.heap.size w w' := by
  go_enter Try.func5, Try.ntmps5
  go_wp2_with fail
  refine (awake_rep w).mono ?_
  rintro e w1 ⟨rfl, bel⟩
  go_wp2_with fail
  go_ret
  exact ⟨rfl, bel⟩

/-- the arrays of the law, and the heap, hold one table -/
structure LowRel (w : World) (base : Nat → Prop) (hb pb kb ab ib : Nat) (t : Hp.Tb) (wr : World) : Prop where
  li : t.ins.length = 10
  lk : t.keys.length = 10
  ht : HT base hb pb kb wr t
  ks : wr.heap[ab]? = some (.cells (ints t.keys) 38 (0, 0))
  is : wr.heap[ib]? = some (.cells (bools t.ins) 39 (0, 0))
  bel : Below w.heap.size w wr
  o1 : hb < ab
  o2 : pb < ab
  o3 : kb < ab
  o4 : ab < ib
  b1 : ¬ base ab
  b2 : ¬ base ib
  b3 : ∀ k, k < w.heap.size → ¬ base k
  g0 : w.heap.size ≤ ab
  g1 : w.heap.size ≤ hb
  g2 : w.heap.size ≤ pb
  g3 : w.heap.size ≤ kb

theorem HT.other {base : Nat → Prop} {hb pb kb : Nat} {w w' : World} {t : Hp.Tb} (h : HT base hb pb kb w t) (hs : w.heap.size ≤ w'.heap.size) (hk : ∀ k, k = hb ∨ k = pb ∨ k = kb ∨ base k → k < w.heap.size → w'.heap[k]? = w.heap[k]?) : HT base hb pb kb w' t := by
  obtain ⟨v, s, r, R⟩ := h
  refine ⟨v, s, r.other hs fun k h => ?_, R⟩
  rcases h with rfl | rfl | rfl | h
  · exact hk _ (.inl rfl) (blk_lt r.top)
  · exact hk _ (.inr (.inl rfl)) (blk_lt r.pl)
  · exact hk _ (.inr (.inr (.inl rfl))) (blk_lt r.ky)
  · exact hk _ (.inr (.inr (.inr (r.it.ge k h)))) (r.it.lt k h)

theorem HT.alloc {base : Nat → Prop} {hb pb kb : Nat} {w : World} {t : Hp.Tb} (h : HT base hb pb kb w t) (o : Obj) : HT base hb pb kb (w.alloc o) t :=
  h.other (by simp) fun k _ hk => alloc_get w o k hk
theorem HT.set {base : Nat → Prop} {hb pb kb : Nat} {w : World} {t : Hp.Tb} (h : HT base hb pb kb w t) (a : Addr) (v : Value) (h1 : a.block ≠ hb) (h2 : a.block ≠ pb) (h3 : a.block ≠ kb) (h4 : ¬ base a.block) : HT base hb pb kb (w.setCell a v) t :=
  h.other (by simp [World.setCell]) fun k hk _ => blk_other w a v k (by
    rcases hk with rfl | rfl | rfl | hk
    · exact h1.symm
    · exact h2.symm
    · exact h3.symm
    · exact fun e => h4 (e ▸ hk))

theorem LowRel.alloc {w : World} {base : Nat → Prop} {hb pb kb ab ib : Nat} {t : Hp.Tb} {wr : World} (L : LowRel w base hb pb kb ab ib t wr) (o : Obj) : LowRel w base hb pb kb ab ib t (wr.alloc o) :=
  ⟨L.li, L.lk, L.ht.alloc o, (alloc_get _ _ _ (blk_lt L.ks)).trans L.ks, (alloc_get _ _ _ (blk_lt L.is)).trans L.is, L.bel.trans ((Below.refl _ _).alloc L.bel.size _), L.o1, L.o2, L.o3, L.o4, L.b1, L.b2, L.b3, L.g0, L.g1, L.g2, L.g3⟩

/-- behind a call of the heap's -/
theorem LowRel.call {w : World} {base : Nat → Prop} {hb pb kb ab ib : Nat} {t : Hp.Tb} {wr w2 : World} (L : LowRel w base hb pb kb ab ib t wr) (f : Fr base hb pb kb wr w2) :
    w2.heap[ab]? = some (.cells (ints t.keys) 38 (0, 0)) ∧ w2.heap[ib]? = some (.cells (bools t.ins) 39 (0, 0)) ∧ Below w.heap.size w w2 := by
  have o1 := L.o1; have o2 := L.o2; have o3 := L.o3; have o4 := L.o4; have b1 := L.b1; have b2 := L.b2; have b3 := L.b3; have g0 := L.g0
  exact ⟨(f.block ab b1 (by omega) (by omega) (by omega)).trans L.ks, (f.block ib b2 (by omega) (by omega) (by omega)).trans L.is, L.bel.trans (f.below _ b3 L.g1 L.g2 L.g3)⟩

/-- another choice of the blocks in which the items may lie -/
theorem HT.to {base base' : Nat → Prop} {hb pb kb : Nat} {w : World} {t : Hp.Tb} (h : HT base hb pb kb w t) (h0 : ∀ k, k < w.heap.size → base k → base' k) (hu : ∀ k, w.heap.size ≤ k → base' k) (h1 : ¬ base' hb) (h2 : ¬ base' pb) (h3 : ¬ base' kb) : HT base' hb pb kb w t := by
  obtain ⟨v, s, r, R⟩ := h
  exact ⟨v, s, ⟨r.top, r.pl, r.ky, ⟨r.it.1, fun k hk => h0 k (r.it.lt k hk) (r.it.2 k hk)⟩, h1, h2, h3, hu, r.ne1, r.ne2, r.ne3, r.small, r.len, r.lk⟩, R⟩
theorem HT.lo {base : Nat → Prop} {hb pb kb : Nat} {w : World} {t : Hp.Tb} (h : HT base hb pb kb w t) : ¬ base hb ∧ ¬ base pb ∧ ¬ base kb ∧ ∀ k, w.heap.size ≤ k → base k := by
  obtain ⟨v, s, r, R⟩ := h; exact ⟨r.lo1, r.lo2, r.lo3, r.up⟩

/-- a new block: the items stay out of it -/
theorem LowRel.avoid {w : World} {base : Nat → Prop} {hb pb kb ab ib : Nat} {t : Hp.Tb} {wr : World} (L : LowRel w base hb pb kb ab ib t wr) (o : Obj) : LowRel w (fun k => base k ∧ k ≠ wr.heap.size) hb pb kb ab ib t (wr.alloc o) := by
  have L1 := L.alloc o
  obtain ⟨q1, q2, q3, q4⟩ := L.ht.lo
  obtain ⟨_, _, _, p4⟩ := L1.ht.lo
  have h : HT base hb pb kb wr t := L.ht
  obtain ⟨v, s, r, R⟩ := h
  refine ⟨L.li, L.lk, ?_, L1.ks, L1.is, L1.bel, L.o1, L.o2, L.o3, L.o4, fun h => L.b1 h.1, fun h => L.b2 h.1, fun k hk h => L.b3 k hk h.1, L.g0, L.g1, L.g2, L.g3⟩
  have r1 : Rep base hb pb kb (wr.alloc o) v s := r.other (by simp) fun k hk => alloc_get _ _ _ (by
    rcases hk with rfl | rfl | rfl | hk
    · exact blk_lt r.top
    · exact blk_lt r.pl
    · exact blk_lt r.ky
    · exact r.it.lt k hk)
  exact ⟨v, s, ⟨r1.top, r1.pl, r1.ky, ⟨r1.it.1, fun k hk => ⟨r1.it.2 k hk, fun e => by have := r.it.lt k hk; omega⟩⟩, fun h => q1 h.1, fun h => q2 h.1, fun h => q3 h.1, fun k hk => ⟨p4 k hk, fun e => by simp at hk; omega⟩, r.ne1, r.ne2, r.ne3, r.small, r.len, r.lk⟩, R⟩

theorem LowRel.back {w : World} {base base' : Nat → Prop} {hb pb kb ab ib : Nat} {t : Hp.Tb} {wr : World} (L : LowRel w base' hb pb kb ab ib t wr) (h : ∀ k, base' k → base k) (h1 : ¬ base hb) (h2 : ¬ base pb) (h3 : ¬ base kb) (h4 : ¬ base ab) (h5 : ¬ base ib) (h6 : ∀ k, k < w.heap.size → ¬ base k) : LowRel w base hb pb kb ab ib t wr :=
  ⟨L.li, L.lk, L.ht.to (fun k _ => h k) (fun k hk => h k (L.ht.lo.2.2.2 k hk)) h1 h2 h3, L.ks, L.is, L.bel, L.o1, L.o2, L.o3, L.o4, h4, h5, h6, L.g0, L.g1, L.g2, L.g3⟩

theorem tdrop_same {t : Hp.Tb} {x : Nat} (hx : x < t.ins.length) : (if thas t (x : Nat) then tdrop t x else t) = tdrop t x := by
  cases c : thas t (x : Nat) with
  | true => rfl
  | false =>
    have : t.ins.getD x false = false := by
      simp only [thas, tin, Int.toNat_natCast, Bool.and_eq_false_iff] at c
      rcases c with c | c
      · simp at c; omega
      · exact c
    unfold tdrop
    rw [show t.ins.set x false = t.ins from by
      apply List.ext_getElem (by simp)
      intro i h1 h2
      rw [List.getElem_set]
      split
      · rename_i e; subst e; rw [List.getD_eq_getElem?_getD, List.getElem?_eq_getElem h2] at this; exact this.symm
      · rfl]
    rfl

theorem LowRel.drop {w : World} {base : Nat → Prop} {hb pb kb ab ib : Nat} {t : Hp.Tb} {wr w2 : World} (L : LowRel w base hb pb kb ab ib t wr) {x : Nat} (hx : x < 10) (f : Fr base hb pb kb wr w2) (h : HT base hb pb kb w2 (if thas t (x : Nat) then tdrop t x else t)) :
    LowRel w base hb pb kb ab ib (tdrop t x) (w2.setCell ⟨ib, x, none⟩ (.bool false)) := by
  obtain ⟨a1, a2, a3⟩ := L.call f
  have o1 := L.o1; have o2 := L.o2; have o3 := L.o3; have o4 := L.o4; have b1 := L.b1; have b2 := L.b2; have b3 := L.b3; have g0 := L.g0
  rw [tdrop_same (by rw [L.li]; exact hx)] at h
  refine ⟨by simp [tdrop, L.li], L.lk, h.set _ _ (by show ib ≠ hb; omega) (by show ib ≠ pb; omega) (by show ib ≠ kb; omega) b2, ?_, ?_, a3.setCell (by show _ ≤ ib; omega) _, o1, o2, o3, o4, b1, b2, b3, g0, L.g1, L.g2, L.g3⟩
  · rw [blk_other _ _ _ _ (by show ab ≠ ib; omega)]; exact a1
  · rw [blk_set a2, bools_set]; rfl

theorem LowRel.set {w : World} {base : Nat → Prop} {hb pb kb ab ib : Nat} {t : Hp.Tb} {wr w2 : World} (L : LowRel w base hb pb kb ab ib t wr) {x : Nat} (k : Int) (f : Fr base hb pb kb wr w2) (h : HT base hb pb kb w2 (tset t x k)) :
    LowRel w base hb pb kb ab ib (tset t x k) ((w2.setCell ⟨ab, x, none⟩ (.int .i64 k)).setCell ⟨ib, x, none⟩ (.bool true)) := by
  obtain ⟨a1, a2, a3⟩ := L.call f
  have o1 := L.o1; have o2 := L.o2; have o3 := L.o3; have o4 := L.o4; have b1 := L.b1; have b2 := L.b2; have b3 := L.b3; have g0 := L.g0
  refine ⟨by simp [tset, L.li], by simp [tset, L.lk], (h.set _ _ (by show ab ≠ hb; omega) (by show ab ≠ pb; omega) (by show ab ≠ kb; omega) b1).set _ _ (by show ib ≠ hb; omega) (by show ib ≠ pb; omega) (by show ib ≠ kb; omega) b2, ?_, ?_, (a3.setCell (by show _ ≤ ab; omega) _).setCell (by show _ ≤ ib; omega) _, o1, o2, o3, o4, b1, b2, b3, g0, L.g1, L.g2, L.g3⟩
  · rw [blk_other _ _ _ _ (by show ab ≠ ib; omega), blk_set a1, ints_set]; rfl
  · rw [blk_set (by rw [blk_other _ _ _ _ (by show ib ≠ ab; omega)]; exact a2), bools_set]; rfl

theorem Fr.ofdrew {base : Nat → Prop} {hb pb kb : Nat} {w w2 : World} (f : Fr base hb pb kb w.drew w2) : Fr base hb pb kb w w2 := ⟨f.os, f.tape, f.output, f.size, f.block⟩

theorem mod10 (it : Int) : ∃ x : Nat, (wrap64 (it.tmod 10 + 10)).tmod 10 = x ∧ x < 10 := by
  have a := Int.tmod_lt_of_pos it (b := 10) (by omega)
  have b := Int.lt_tmod_of_pos it (b := 10) (by omega)
  rw [IntWalk.wrap64_in _ ⟨by omega, by omega⟩, Int.tmod_eq_emod_of_nonneg (by omega)]
  exact ⟨((it.tmod 10 + 10) % 10).toNat, by omega, by omega⟩

theorem ix0 (b0 b1 b2 b3 b4 b5 b6 b7 b8 b9 : Bool) (w : World) : (Instr.index 39 (.agg #[.bool b0, .bool b1, .bool b2, .bool b3, .bool b4, .bool b5, .bool b6, .bool b7, .bool b8, .bool b9]) (.int .i64 0)).run Try.prog w = .ok (.bool b0) w := by kernel_rfl
theorem ix1 (b0 b1 b2 b3 b4 b5 b6 b7 b8 b9 : Bool) (w : World) : (Instr.index 39 (.agg #[.bool b0, .bool b1, .bool b2, .bool b3, .bool b4, .bool b5, .bool b6, .bool b7, .bool b8, .bool b9]) (.int .i64 1)).run Try.prog w = .ok (.bool b1) w := by kernel_rfl
theorem ix2 (b0 b1 b2 b3 b4 b5 b6 b7 b8 b9 : Bool) (w : World) : (Instr.index 39 (.agg #[.bool b0, .bool b1, .bool b2, .bool b3, .bool b4, .bool b5, .bool b6, .bool b7, .bool b8, .bool b9]) (.int .i64 2)).run Try.prog w = .ok (.bool b2) w := by kernel_rfl
theorem ix3 (b0 b1 b2 b3 b4 b5 b6 b7 b8 b9 : Bool) (w : World) : (Instr.index 39 (.agg #[.bool b0, .bool b1, .bool b2, .bool b3, .bool b4, .bool b5, .bool b6, .bool b7, .bool b8, .bool b9]) (.int .i64 3)).run Try.prog w = .ok (.bool b3) w := by kernel_rfl
theorem ix4 (b0 b1 b2 b3 b4 b5 b6 b7 b8 b9 : Bool) (w : World) : (Instr.index 39 (.agg #[.bool b0, .bool b1, .bool b2, .bool b3, .bool b4, .bool b5, .bool b6, .bool b7, .bool b8, .bool b9]) (.int .i64 4)).run Try.prog w = .ok (.bool b4) w := by kernel_rfl
theorem ix5 (b0 b1 b2 b3 b4 b5 b6 b7 b8 b9 : Bool) (w : World) : (Instr.index 39 (.agg #[.bool b0, .bool b1, .bool b2, .bool b3, .bool b4, .bool b5, .bool b6, .bool b7, .bool b8, .bool b9]) (.int .i64 5)).run Try.prog w = .ok (.bool b5) w := by kernel_rfl
theorem ix6 (b0 b1 b2 b3 b4 b5 b6 b7 b8 b9 : Bool) (w : World) : (Instr.index 39 (.agg #[.bool b0, .bool b1, .bool b2, .bool b3, .bool b4, .bool b5, .bool b6, .bool b7, .bool b8, .bool b9]) (.int .i64 6)).run Try.prog w = .ok (.bool b6) w := by kernel_rfl
theorem ix7 (b0 b1 b2 b3 b4 b5 b6 b7 b8 b9 : Bool) (w : World) : (Instr.index 39 (.agg #[.bool b0, .bool b1, .bool b2, .bool b3, .bool b4, .bool b5, .bool b6, .bool b7, .bool b8, .bool b9]) (.int .i64 7)).run Try.prog w = .ok (.bool b7) w := by kernel_rfl
theorem ix8 (b0 b1 b2 b3 b4 b5 b6 b7 b8 b9 : Bool) (w : World) : (Instr.index 39 (.agg #[.bool b0, .bool b1, .bool b2, .bool b3, .bool b4, .bool b5, .bool b6, .bool b7, .bool b8, .bool b9]) (.int .i64 8)).run Try.prog w = .ok (.bool b8) w := by kernel_rfl
theorem ix9 (b0 b1 b2 b3 b4 b5 b6 b7 b8 b9 : Bool) (w : World) : (Instr.index 39 (.agg #[.bool b0, .bool b1, .bool b2, .bool b3, .bool b4, .bool b5, .bool b6, .bool b7, .bool b8, .bool b9]) (.int .i64 9)).run Try.prog w = .ok (.bool b9) w := by kernel_rfl
theorem index_bools (l : List Bool) (hl : l.length = 10) (k : Nat) (hk : k < 10) (w : World) : (Instr.index 39 (.agg (bools l)) (.int .i64 (k : Nat))).run Try.prog w = .ok (.bool (l.getD k false)) w := by
  match l, hl with
  | [b0, b1, b2, b3, b4, b5, b6, b7, b8, b9], _ =>
    match k, hk with
    | 0, _ => exact ix0 b0 b1 b2 b3 b4 b5 b6 b7 b8 b9 w
    | 1, _ => exact ix1 b0 b1 b2 b3 b4 b5 b6 b7 b8 b9 w
    | 2, _ => exact ix2 b0 b1 b2 b3 b4 b5 b6 b7 b8 b9 w
    | 3, _ => exact ix3 b0 b1 b2 b3 b4 b5 b6 b7 b8 b9 w
    | 4, _ => exact ix4 b0 b1 b2 b3 b4 b5 b6 b7 b8 b9 w
    | 5, _ => exact ix5 b0 b1 b2 b3 b4 b5 b6 b7 b8 b9 w
    | 6, _ => exact ix6 b0 b1 b2 b3 b4 b5 b6 b7 b8 b9 w
    | 7, _ => exact ix7 b0 b1 b2 b3 b4 b5 b6 b7 b8 b9 w
    | 8, _ => exact ix8 b0 b1 b2 b3 b4 b5 b6 b7 b8 b9 w
    | 9, _ => exact ix9 b0 b1 b2 b3 b4 b5 b6 b7 b8 b9 w

theorem count_take (l : List Bool) (k : Nat) (h : k < l.length) : (l.take (k + 1)).count true = (l.take k).count true + if l.getD k false then 1 else 0 := by
  rw [List.take_add_one, List.count_append, List.getD_eq_getElem?_getD, List.getElem?_eq_getElem h]
  cases l[k] <;> simp

set_option maxHeartbeats 2000000 in
theorem heapLowers_short (a : Option Addr) (cap : Nat) (l : List ActV) (h : l.length ≤ 200) (w : World) (hc : Acts w a l) :
    Calls Try.prog 5 #[.slice a l.length cap] w fun e w' => e = .returned (.bool true) ∧ Below w.heap.size w w' := by
  have HC := Lib.hid hc
  clear hc
  go_enter Try.func5, Try.ntmps5
  go_wp2_with fail
  refine (new_rep 10 w).mono ?_
  rintro e w1 ⟨hb, pb, kb, rfl, g1, g2, g3, r, bel⟩
  have r : Rep (fun k => w1.heap.size ≤ k) hb pb kb w1 (.slice none 0 0) (Hp.new 10) := r
  have sz := bel.size
  have L0 : LowRel w (fun k => w1.heap.size + 1 + 1 ≤ k) hb pb kb w1.heap.size (w1.heap.size + 1) (tnew 10) ((w1.alloc (.cells (zeros 10) 38)).alloc (.cells (falses 10) 39)) := by
    have e1 := (MapKept.heap_alloc (w1.alloc (.cells (zeros 10) 38)) (.cells (falses 10) 39)).1
    have e2 := (alloc_get (w1.alloc (.cells (zeros 10) 38)) (.cells (falses 10) 39) w1.heap.size (by simp)).trans (MapKept.heap_alloc w1 (.cells (zeros 10) 38)).1
    refine ⟨rfl, rfl, ?_, e2, by rw [show (w1.alloc (.cells (zeros 10) 38)).heap.size = w1.heap.size + 1 from by simp] at e1; exact e1, bel.trans (((Below.refl _ _).alloc sz _).alloc (by simp; omega) _), Nat.not_le.1 r.lo1, Nat.not_le.1 r.lo2, Nat.not_le.1 r.lo3, by omega, by omega, by omega, by intro k hk h; have h : w1.heap.size + 1 + 1 ≤ k := h; omega, sz, g1, g2, g3⟩
    have := HT.first (w' := ((w1.alloc (.cells (zeros 10) 38)).alloc (.cells (falses 10) 39))) r (fun k hk => by
      have : k < w1.heap.size := by
        rcases hk with rfl | rfl | rfl
        · exact Nat.not_le.1 r.lo1
        · exact Nat.not_le.1 r.lo2
        · exact Nat.not_le.1 r.lo3
      rw [alloc_get _ _ _ (by simp; omega), alloc_get _ _ _ this])
    simpa using this
  rename_i r0
  clear r r0
  go_wp2_with fail
  rw [show (#[Value.int IntKind.i64 0, Value.int IntKind.i64 0, Value.int IntKind.i64 0, Value.int IntKind.i64 0, Value.int IntKind.i64 0, Value.int IntKind.i64 0, Value.int IntKind.i64 0, Value.int IntKind.i64 0, Value.int IntKind.i64 0, Value.int IntKind.i64 0] : Array Value) = zeros 10 from rfl,
    show (#[Value.bool false, Value.bool false, Value.bool false, Value.bool false, Value.bool false, Value.bool false, Value.bool false, Value.bool false, Value.bool false, Value.bool false] : Array Value) = falses 10 from rfl]
  generalize (w1.alloc (.cells (zeros 10) 38)).alloc (.cells (falses 10) 39) = W at L0 ⊢
  go_loopw [23] (fun t wr => ∃ (k : Nat) (tb : Hp.Tb), t = .int .i64 k ∧ k ≤ l.length ∧ LowRel w (fun k => w1.heap.size + 1 + 1 ≤ k) hb pb kb w1.heap.size (w1.heap.size + 1) tb wr) (fun t _ => l.length - (intOf t).toNat)
  case atStart => exact ⟨0, tnew 10, rfl, Nat.zero_le _, L0⟩
  case round =>
    clear L0
    obtain ⟨k, tb, rfl, hk, L⟩ := hrel
    by_cases c : k < l.length
    · obtain ⟨b, off, rfl, hb0, hc⟩ := HC.out (by omega)
      obtain ⟨d1, d2, d3⟩ := hc k c
      have bb := World.cell?_of_block (a := ⟨b, off + k * 3, none⟩) (L.bel.block b hb0)
      have d1 : wr.cell? ⟨b, off + k * 3, none⟩ = some (.int .i64 l[k].kind) := (World.cell?_of_block (L.bel.block b hb0)).trans d1
      have d2 : wr.cell? ⟨b, off + k * 3 + 1, none⟩ = some (.int .i64 l[k].item) := (World.cell?_of_block (L.bel.block b hb0)).trans d2
      have d3 : wr.cell? ⟨b, off + k * 3 + 2, none⟩ = some (.int .i64 l[k].key) := (World.cell?_of_block (L.bel.block b hb0)).trans d3
      generalize l[k].kind = ki at d1
      generalize l[k].item = it at d2
      generalize l[k].key = ke at d3
      clear hc bb
      obtain ⟨x, MX, hx⟩ := mod10 it
      obtain ⟨OB, hOB⟩ : ∃ OB : Obj, OB = .cells #[Value.int IntKind.i64 ki, Value.int IntKind.i64 it, Value.int IntKind.i64 ke] 35 := ⟨_, rfl⟩
      have L1 := L.avoid OB
      have bk : ∀ t' w', LowRel w (fun k => (fun k => w1.heap.size + 1 + 1 ≤ k) k ∧ k ≠ wr.heap.size) hb pb kb w1.heap.size (w1.heap.size + 1) t' w' → LowRel w (fun k => w1.heap.size + 1 + 1 ≤ k) hb pb kb w1.heap.size (w1.heap.size + 1) t' w' :=
        fun t' w' LL => LL.back (fun k h => h.1) L.ht.lo.1 L.ht.lo.2.1 L.ht.lo.2.2.1 L.b1 L.b2 L.b3
      have BK := Lib.hid bk
      have nOB : ¬ (fun k => (fun k => w1.heap.size + 1 + 1 ≤ k) k ∧ k ≠ wr.heap.size) wr.heap.size := fun h => h.2 rfl
      have NOB := Lib.hid nOB
      have e0 := (MapKept.heap_alloc wr OB).1
      have q1 : hb ≠ wr.heap.size := by have := L.o1; have := blk_lt L.ks; omega
      have q2 : pb ≠ wr.heap.size := by have := L.o2; have := blk_lt L.ks; omega
      have q3 : kb ≠ wr.heap.size := by have := L.o3; have := blk_lt L.ks; omega
      clear bk nOB
      generalize (fun k => (fun k => w1.heap.size + 1 + 1 ≤ k) k ∧ k ≠ wr.heap.size) = own1 at L1 BK NOB
      have i1 := blk_cell L1.is (bools_get tb.ins x (by rw [L1.li]; exact hx))
      have f1 := blk_free L1.is x
      have sz2 : w1.heap.size + 1 < wr.heap.size := blk_lt L.is
      have HX : Hid (thas tb (x : Nat) = tb.ins.getD x false) := Lib.hid (by simp only [thas, tin, Int.toNat_natCast]; rw [decide_eq_true (by omega), decide_eq_true (by rw [L1.li]; omega)]; rfl)
      have I2 := Lib.hid (fun (w2 : World) (f2 : Fr own1 hb pb kb (wr.alloc OB) w2) => blk_cell (L1.call f2).2.1 (bools_get tb.ins x (by rw [L1.li]; exact hx)))
      have A2 := Lib.hid (fun (w2 : World) (f2 : Fr own1 hb pb kb (wr.alloc OB) w2) => blk_cell (w := w2) (b := wr.heap.size) (i := 2) (((f2.block wr.heap.size NOB.out q1.symm q2.symm q3.symm).trans e0).trans (by rw [hOB])) rfl)
      generalize tb.ins.getD x false = bv at i1 HX I2
      subst hOB
      clear L e0
      by_cases kis : (ki == 2) = true
      · go_wp2_with fail
        go_region_with ((go_at_call 16; refine (hdrop (by exact L1.ht.heap rfl) _).mono ?_; rintro e w2 ⟨rfl, H2, f2⟩; rw [HX.out] at H2 ⊢; have i2 := I2.out w2 f2.ofdrew))
        all_goals
          rw [← HX.out, Int.toNat_natCast] at H2
          have f3 := blk_free (L1.call f2.ofdrew).2.1 x
          have LN := BK.out _ _ (L1.drop hx f2.ofdrew H2)
          clear H2 f2 I2 L1 BK A2
          go_wp2_with fail
          go_roundw
          case rel => exact ⟨k + 1, _, by go_num, c, LN⟩
          case measure => simp [intOf]; omega
      · have kis : (ki == 2) = false := by simpa using kis
        have TT : Hid (tin tb (x : Nat) = true) := Lib.hid (by simp only [tin]; rw [decide_eq_true (by omega), decide_eq_true (by rw [L1.li]; omega)]; rfl)
        go_wp2_with fail
        refine (hset L1.ht _ _).mono ?_
        rintro e w2 ⟨rfl, H2, f2⟩
        rw [TT.out, if_pos rfl, Int.toNat_natCast] at H2
        rw [TT.out]
        obtain ⟨c1, c2, c3⟩ := L1.call f2
        have f3 := blk_free c1 x
        have c1' := blk_cell c1 (ints_get tb.keys x (by rw [L1.lk]; exact hx))
        have f4 := blk_free c2 x
        have c2' := blk_cell c2 (bools_get tb.ins x (by rw [L1.li]; exact hx))
        have c2'' := (World.cell?_of_block (a := ⟨w1.heap.size + 1, x, none⟩) (blk_other w2 ⟨w1.heap.size, x, none⟩ (.int .i64 ke) (w1.heap.size + 1) (by show w1.heap.size + 1 ≠ w1.heap.size; omega))).trans c2'
        have a0 : w2.cell? ⟨wr.heap.size, 2, none⟩ = some (.int .i64 ke) := A2.out w2 f2
        have LN := BK.out _ _ (L1.set ke f2 H2)
        clear H2 f2 I2 L1 BK A2 c1 c2 c3 i1 f1
        go_wp2_with fail
        go_roundw
        case rel => exact ⟨k + 1, _, by go_num, c, LN⟩
        case measure => simp [intOf]; omega
    · have IS := L.is
      have HSZ : Hid ((Try.prog.info? 39).map (·.size) = some (bools tb.ins).size) := Lib.hid (by rw [show (bools tb.ins).size = 10 from by simp [bools, L.li]]; kernel_rfl)
      have ISH := Lib.hid IS
      clear IS
      go_wp2_with (refine wpList_load_row (o := ⟨some 57, _, _, _, _, _⟩) rfl 39 _ rfl (w1.heap.size + 1) rfl 39 (bools tb.ins) (0, 0) _ ISH.out Try.underlying39 rfl HSZ.out ?_)
      go_loop [6, 58] (fun n i => ∃ j : Nat, j ≤ 10 ∧ i = .int .i64 j ∧ n = .int .i64 ((tb.ins.take j).count true : Nat)) (fun _ i => 10 - (intOf i).toNat)
      case atStart => exact ⟨0, by omega, rfl, rfl⟩
      case round =>
        obtain ⟨j, hj, rfl, rfl⟩ := hrel
        have cb : (tb.ins.take j).count true ≤ j := Nat.le_trans List.count_le_length (List.length_take_le _ _)
        by_cases cj : j < 10
        · have HX : Hid (thas tb (j : Nat) = tb.ins.getD j false) := Lib.hid (by simp only [thas, tin, Int.toNat_natCast]; rw [decide_eq_true (by omega), decide_eq_true (by rw [L.li]; omega)]; rfl)
          have CT := Lib.hid (count_take tb.ins j (by rw [L.li]; exact cj))
          have ix := index_bools tb.ins L.li j cj
          have ck := blk_cell L.ks (ints_get tb.keys j (by rw [L.lk]; exact cj))
          generalize tb.ins.getD j false = bv at HX CT ix
          generalize hkv : tb.keys.getD j 0 = kv at ck
          have KV := Lib.hid hkv
          clear hkv
          generalize (tb.ins.take j).count true = cn at CT cb
          cases bv with
          | true =>
            go_wp2_with fail
            refine (hkey L.ht _).mono ?_
            rintro e w' ⟨rfl, rfl⟩
            rw [HX.out, Int.toNat_natCast]
            rw [if_pos rfl, KV.out]
            go_wp2_with fail
            go_round
            case rel => exact ⟨j + 1, by omega, by go_num, by rw [CT.out]; go_num⟩
            case measure => simp [intOf]; omega
          | false =>
            go_wp2_with fail
            refine (hkey L.ht _).mono ?_
            rintro e w' ⟨rfl, rfl⟩
            rw [HX.out, Int.toNat_natCast]
            rw [if_neg (by simp)]
            go_wp2_with fail
            go_round
            case rel => exact ⟨j + 1, by omega, by go_num, by rw [CT.out]; go_num⟩
            case measure => simp [intOf]; omega
        · obtain rfl : j = 10 := by omega
          have TL : Hid (tlen tb = (tb.ins.take 10).count true) := Lib.hid (by unfold tlen; rw [List.take_of_length_le (by rw [L.li]; omega)])
          generalize (tb.ins.take 10).count true = cn at TL cb
          go_wp2_with fail
          refine (awake_rep wr).mono ?_
          rintro e w3 ⟨rfl, b3⟩
          have H3 := L.ht.other b3.size fun k _ hk => b3.block k hk
          have bel3 := L.bel.trans (b3.mono L.bel.size)
          clear b3
          go_wp2_with fail
          refine (hlen H3).mono ?_
          rintro e w' ⟨rfl, rfl⟩
          rw [TL.out]
          go_wp2_with fail
          go_ret
          exact ⟨rfl, bel3⟩

theorem heapLowers_walk (a : Option Addr) (cap : Nat) (l : List ActV) (w : World) (hc : Acts w a l) :
    Calls Try.prog 5 #[.slice a l.length cap] w fun e w' => e = .returned (.bool true) ∧ Below w.heap.size w w' := by
  by_cases h : l.length ≤ 200
  · exact heapLowers_short a cap l h w hc
  · exact heapLowers_long a l.length cap (by omega) w

end Go.Proofs.Ytnlcckajldkchaa
