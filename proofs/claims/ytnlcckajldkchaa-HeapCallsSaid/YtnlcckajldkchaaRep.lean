/-
  How the heap of the Go text lies in memory: a block for the struct, one for the places, one for the keys, and a row for the items that may grow; what a store does to it.
-/
import Derived.Test.YtnlcckajldkchaaRows
import Derived.Test.YtnlcckajldkchaaPlain
import Derived.WalkKit
import Derived.WalkSpells
namespace Go.Proofs.Ytnlcckajldkchaa
open Go.RowKit

/-! ### Blocks -/

theorem blk_cell {w : World} {b : Nat} {C : Array Value} {t : TypeId} (h : w.heap[b]? = some (.cells C t (0, 0))) {i : Nat} {v : Value} (hv : C[i]? = some v) : w.cell? ⟨b, i, none⟩ = some v := by
  simp [World.cell?, h, hv]
theorem blk_free {w : World} {b : Nat} {C : Array Value} {t : TypeId} (h : w.heap[b]? = some (.cells C t (0, 0))) (i : Nat) : w.frozen? ⟨b, i, none⟩ = false := by
  simp [World.frozen?, h]
theorem blk_set {w : World} {b : Nat} {C : Array Value} {t : TypeId} (h : w.heap[b]? = some (.cells C t (0, 0))) (i : Nat) (u : Value) : (w.setCell ⟨b, i, none⟩ u).heap[b]? = some (.cells (C.setIfInBounds i u) t (0, 0)) := by
  simp [World.setCell, Array.getElem?_modify, h]
theorem blk_other (w : World) (a : Addr) (u : Value) (k : Nat) (h : k ≠ a.block) : (w.setCell a u).heap[k]? = w.heap[k]? := Below.heap_setCell w a u k h
theorem blk_lt {w : World} {b : Nat} {o : Obj} (h : w.heap[b]? = some o) : b < w.heap.size := by
  rcases Nat.lt_or_ge b w.heap.size with h' | h'
  · exact h'
  · simp [Array.getElem?_eq_none h'] at h

/-! ### What may turn -/

/-- of the blocks outside of 'base' only hb, pb, kb may have turned -/
structure Fr (base : Nat → Prop) (hb pb kb : Nat) (w w' : World) : Prop where
  os : w'.os = w.os
  tape : w'.tape = w.tape
  output : w'.output = w.output
  size : w.heap.size ≤ w'.heap.size
  block : ∀ k, ¬ base k → k ≠ hb → k ≠ pb → k ≠ kb → w'.heap[k]? = w.heap[k]?

theorem Fr.refl (base : Nat → Prop) (hb pb kb : Nat) (w : World) : Fr base hb pb kb w w := ⟨rfl, rfl, rfl, Nat.le_refl _, fun _ _ _ _ _ => rfl⟩
theorem Fr.trans {base : Nat → Prop} {hb pb kb : Nat} {a b c : World} (x : Fr base hb pb kb a b) (y : Fr base hb pb kb b c) : Fr base hb pb kb a c :=
  ⟨y.os.trans x.os, y.tape.trans x.tape, y.output.trans x.output, Nat.le_trans x.size y.size, fun k h1 h2 h3 h4 => (y.block k h1 h2 h3 h4).trans (x.block k h1 h2 h3 h4)⟩

/-! ### The rows of numbers -/

def ints (l : List Int) : Array Value := (l.map (Value.int .i64)).toArray
theorem ints_get (l : List Int) (i : Nat) (h : i < l.length) : (ints l)[i]? = some (.int .i64 (l.getD i 0)) := by
  simp [ints, h]
theorem ints_set (l : List Int) (i : Nat) (z : Int) : (ints l).setIfInBounds i (.int .i64 z) = ints (l.set i z) := by
  simp [ints, List.map_set]

def nats (l : List Nat) : List Value := l.map fun (n : Nat) => Value.int .i64 (n : Int)
theorem nats_length (l : List Nat) : (nats l).length = l.length := by simp [nats]

/-- the slice value v owns the row of the items, in a block of 'base' -/
def Own (w : World) (base : Nat → Prop) (v : Value) (l : List Nat) : Prop := w.ownsRow 0 3 1 v l.length (nats l) ∧ ∀ k, v.ownBlock = some k → base k

theorem Own.of_block {w w' : World} {base : Nat → Prop} {v : Value} {l : List Nat} (h : Own w base v l) (hb : ∀ k, v.ownBlock = some k → w'.heap[k]? = w.heap[k]?) : Own w' base v l := by
  obtain ⟨⟨h1, h2⟩, h3⟩ := h
  refine ⟨⟨h1, ?_⟩, h3⟩
  rcases h2 with h2 | ⟨g, cap, cur, hv, hg, hh, r⟩
  · exact .inl h2
  · subst hv
    exact .inr ⟨g, cap, cur, rfl, hg, (hb g rfl).trans hh, r⟩

theorem Own.ge {w : World} {base : Nat → Prop} {v : Value} {l : List Nat} (h : Own w base v l) : ∀ k, v.ownBlock = some k → base k := h.2

/-- where there is an item the slice leads to a block -/
theorem Own.row {w : World} {base : Nat → Prop} {v : Value} {l : List Nat} (h : Own w base v l) (hl : 0 < l.length) :
    ∃ g cap cur, v = .slice (some ⟨g, 0, none⟩) l.length cap ∧ base g ∧ w.heap[g]? = some (.cells cur 3 (0, 0)) ∧ l.length ≤ cap ∧ cap ≤ maxLen ∧ cur.size = cap ∧ cur.toList.take l.length = nats l := by
  obtain ⟨⟨_, h2⟩, h3⟩ := h
  rcases h2 with ⟨_, h2⟩ | ⟨g, cap, cur, hv, hg, hh, r1, r2, r3, r4⟩
  · omega
  · exact ⟨g, cap, cur, hv, h3 g (by rw [hv]; rfl), hh, r1, r2, by simpa using r3, by simpa using r4⟩

theorem take_get {cur : Array Value} {l : List Nat} (h : cur.toList.take l.length = nats l) {i : Nat} (hi : i < l.length) : cur[i]? = some (.int .i64 ((l.getD i 0 : Nat) : Int)) := by
  have : (cur.toList.take l.length)[i]? = (nats l)[i]? := by rw [h]
  rw [List.getElem?_take, if_pos hi] at this
  simp only [nats, List.getElem?_map] at this
  rw [← Array.getElem?_toList, this]
  simp [hi]

theorem take_set {cur : Array Value} {l : List Nat} (h : cur.toList.take l.length = nats l) (i x : Nat) : (cur.setIfInBounds i (.int .i64 (x : Int))).toList.take (l.set i x).length = nats (l.set i x) := by
  simp only [List.length_set, Array.toList_setIfInBounds, List.take_set, h, nats, List.map_set]

/-! ### The whole -/

structure Rep (base : Nat → Prop) (hb pb kb : Nat) (w : World) (v : Value) (s : Hp.St) : Prop where
  top : w.heap[hb]? = some (.cells #[v, .slice (some ⟨pb, 0, none⟩) s.place.length s.place.length, .slice (some ⟨kb, 0, none⟩) s.place.length s.place.length] 46 (0, 0))
  pl : w.heap[pb]? = some (.cells (ints s.place) 3 (0, 0))
  ky : w.heap[kb]? = some (.cells (ints s.keys) 3 (0, 0))
  it : Own w base v s.items
  lo1 : ¬ base hb
  lo2 : ¬ base pb
  lo3 : ¬ base kb
  up : ∀ k, w.heap.size ≤ k → base k
  ne1 : hb ≠ pb
  ne2 : hb ≠ kb
  ne3 : pb ≠ kb
  small : s.place.length ≤ 65536
  len : s.items.length ≤ s.place.length
  lk : s.keys.length = s.place.length

theorem Rep.c0 {base : Nat → Prop} {hb pb kb : Nat} {w : World} {v : Value} {s : Hp.St} (r : Rep base hb pb kb w v s) : w.cell? ⟨hb, 0, none⟩ = some v := blk_cell r.top rfl
theorem Rep.c1 {base : Nat → Prop} {hb pb kb : Nat} {w : World} {v : Value} {s : Hp.St} (r : Rep base hb pb kb w v s) : w.cell? ⟨hb, 1, none⟩ = some (.slice (some ⟨pb, 0, none⟩) s.place.length s.place.length) := blk_cell r.top rfl
theorem Rep.c2 {base : Nat → Prop} {hb pb kb : Nat} {w : World} {v : Value} {s : Hp.St} (r : Rep base hb pb kb w v s) : w.cell? ⟨hb, 2, none⟩ = some (.slice (some ⟨kb, 0, none⟩) s.place.length s.place.length) := blk_cell r.top rfl
theorem Rep.cp {base : Nat → Prop} {hb pb kb : Nat} {w : World} {v : Value} {s : Hp.St} (r : Rep base hb pb kb w v s) {i : Nat} (h : i < s.place.length) : w.cell? ⟨pb, i, none⟩ = some (.int .i64 (s.place.getD i 0)) := blk_cell r.pl (ints_get _ _ h)
theorem Rep.ck {base : Nat → Prop} {hb pb kb : Nat} {w : World} {v : Value} {s : Hp.St} (r : Rep base hb pb kb w v s) {i : Nat} (h : i < s.place.length) : w.cell? ⟨kb, i, none⟩ = some (.int .i64 (s.key i)) := blk_cell r.ky (ints_get _ _ (by rw [r.lk]; exact h))

/-- a world with the same heap -/
theorem Rep.heap {base : Nat → Prop} {hb pb kb : Nat} {w w' : World} {v : Value} {s : Hp.St} (r : Rep base hb pb kb w v s) (h : w'.heap = w.heap) : Rep base hb pb kb w' v s :=
  ⟨by rw [h]; exact r.top, by rw [h]; exact r.pl, by rw [h]; exact r.ky, r.it.of_block fun k _ => by rw [h], r.lo1, r.lo2, r.lo3, by rw [h]; exact r.up, r.ne1, r.ne2, r.ne3, r.small, r.len, r.lk⟩

/-- other blocks may turn -/
theorem Rep.other {base : Nat → Prop} {hb pb kb : Nat} {w w' : World} {v : Value} {s : Hp.St} (r : Rep base hb pb kb w v s) (hs : w.heap.size ≤ w'.heap.size) (h : ∀ k, k = hb ∨ k = pb ∨ k = kb ∨ v.ownBlock = some k → w'.heap[k]? = w.heap[k]?) : Rep base hb pb kb w' v s :=
  ⟨by rw [h hb (.inl rfl)]; exact r.top, by rw [h pb (.inr (.inl rfl))]; exact r.pl, by rw [h kb (.inr (.inr (.inl rfl)))]; exact r.ky, r.it.of_block fun k hk => h k (.inr (.inr (.inr hk))), r.lo1, r.lo2, r.lo3, fun k hk => r.up k (Nat.le_trans hs hk), r.ne1, r.ne2, r.ne3, r.small, r.len, r.lk⟩

/-- where there is an item: its block, and its cells -/
theorem Rep.row {base : Nat → Prop} {hb pb kb : Nat} {w : World} {v : Value} {s : Hp.St} (r : Rep base hb pb kb w v s) (hl : 0 < s.items.length) :
    ∃ g cap, v = .slice (some ⟨g, 0, none⟩) s.items.length cap ∧ base g ∧ s.items.length ≤ cap ∧ (∀ i, i < s.items.length → w.cell? ⟨g, i, none⟩ = some (.int .i64 ((s.get i : Nat) : Int))) ∧ ∀ i, w.frozen? ⟨g, i, none⟩ = false := by
  obtain ⟨g, cap, cur, h1, h2, h3, h4, _, _, h7⟩ := r.it.row hl
  exact ⟨g, cap, h1, h2, h4, fun i hi => blk_cell h3 (take_get h7 hi), blk_free h3⟩

/-- the exchange of two items, and of their places -/
theorem Rep.swap {base : Nat → Prop} {hb pb kb : Nat} {w w' : World} {v : Value} {s : Hp.St} (r : Rep base hb pb kb w v s) {g cap : Nat} (hv : v = .slice (some ⟨g, 0, none⟩) s.items.length cap) {i j : Nat} (hl : 0 < s.items.length)
    (h : w'.heap = ((((w.setCell ⟨g, i, none⟩ (.int .i64 (s.get j : Nat))).setCell ⟨g, j, none⟩ (.int .i64 (s.get i : Nat))).setCell ⟨pb, s.get j, none⟩ (.int .i64 i)).setCell ⟨pb, s.get i, none⟩ (.int .i64 j)).heap)
    (ho : w'.os = w.os) (ht : w'.tape = w.tape) (hp : w'.output = w.output) :
    Rep base hb pb kb w' v (s.swap i j) ∧ Fr base hb pb kb w w' := by
  obtain ⟨g', cap', cur, h1, h2, h3, h4, h5, h6, h7⟩ := r.it.row hl
  rw [hv] at h1
  simp only [Value.slice.injEq, Option.some.injEq, Addr.mk.injEq, and_true, true_and] at h1
  obtain ⟨rfl, rfl⟩ := h1
  have l1 := r.lo1; have l2 := r.lo2; have l3 := r.lo3
  have n1 := r.ne1; have n2 := r.ne2; have n3 := r.ne3
  have m1 : hb ≠ g := fun e => l1 (e ▸ h2)
  have m2 : pb ≠ g := fun e => l2 (e ▸ h2)
  have m3 : kb ≠ g := fun e => l3 (e ▸ h2)
  have sz : w'.heap.size = w.heap.size := by rw [h]; simp [World.setCell]
  refine ⟨⟨?_, ?_, ?_, ?_, l1, l2, l3, by rw [sz]; exact r.up, n1, n2, n3, ?_, ?_, ?_⟩, ho, ht, hp, by omega, ?_⟩
  · rw [h, blk_other _ _ _ _ (by exact n1), blk_other _ _ _ _ (by exact n1), blk_other _ _ _ _ (by exact m1), blk_other _ _ _ _ (by exact m1), Hp.swap_pl]; exact r.top
  · rw [h]
    have a := blk_set (w := (w.setCell ⟨g, i, none⟩ (.int .i64 (s.get j : Nat))).setCell ⟨g, j, none⟩ (.int .i64 (s.get i : Nat))) (b := pb) (C := ints s.place) (t := 3) (by
      rw [blk_other _ _ _ _ (by exact m2), blk_other _ _ _ _ (by exact m2)]; exact r.pl) (s.get j) (.int .i64 i)
    rw [blk_set a, ints_set, ints_set]; rfl
  · rw [h, blk_other _ _ _ _ (by exact n3.symm), blk_other _ _ _ _ (by exact n3.symm), blk_other _ _ _ _ (by exact m3), blk_other _ _ _ _ (by exact m3)]; exact r.ky
  · refine ⟨⟨by simp [nats], .inr ⟨g, cap, (cur.setIfInBounds i (.int .i64 (s.get j : Nat))).setIfInBounds j (.int .i64 (s.get i : Nat)), by rw [hv]; simp [Hp.St.swap], Nat.zero_le _, ?_, by simpa [Hp.St.swap] using h4, h5, by simp [h6], ?_⟩⟩, r.it.2⟩
    · rw [h, blk_other _ _ _ _ (by exact m2.symm), blk_other _ _ _ _ (by exact m2.symm), blk_set (blk_set h3 i _)]
    · rw [Nat.mul_one]; exact take_set (take_set h7 i _) j _
  · rw [Hp.swap_pl]; exact r.small
  · rw [Hp.swap_pl]; have := r.len; simpa [Hp.St.swap] using this
  · rw [Hp.swap_pl]; exact r.lk
  · intro k k1 k2 k3 k4
    rw [h, blk_other _ _ _ _ (by exact k3), blk_other _ _ _ _ (by exact k3), blk_other _ _ _ _ (by show k ≠ g; exact fun e => k1 (e ▸ h2)), blk_other _ _ _ _ (by show k ≠ g; exact fun e => k1 (e ▸ h2))]

end Go.Proofs.Ytnlcckajldkchaa
