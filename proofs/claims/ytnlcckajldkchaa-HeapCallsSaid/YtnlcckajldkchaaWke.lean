/-
  The walk through the method Set of the heap.
-/
import Derived.Test.YtnlcckajldkchaaWkd
import Derived.StillTailTactics
import Derived.OwnWalk
import Derived.Maps.AppendAt
namespace Go.Proofs.Ytnlcckajldkchaa
open Go.RowKit

theorem Try.info3 : (Try.prog.info? 3).map (fun i => (i.zero, i.size, i.bytes)) = some (some (.int .i64 0), 1, 8) := by kernel_rfl

/-- a key is written -/
theorem Rep.rekey {base : Nat → Prop} {hb pb kb : Nat} {w w' : World} {v : Value} {s : Hp.St} (r : Rep base hb pb kb w v s) (x : Nat) (k : Int)
    (h : w'.heap = (w.setCell ⟨kb, x, none⟩ (.int .i64 k)).heap) (ho : w'.os = w.os) (ht : w'.tape = w.tape) (hp : w'.output = w.output) :
    Rep base hb pb kb w' v (Hp.rekey s x k) ∧ Fr base hb pb kb w w' := by
  have l1 := r.lo1; have l2 := r.lo2; have l3 := r.lo3
  have n1 := r.ne1; have n2 := r.ne2; have n3 := r.ne3
  have sz : w'.heap.size = w.heap.size := by rw [h]; simp [World.setCell]
  have ge := r.it.ge
  refine ⟨⟨?_, ?_, ?_, ?_, l1, l2, l3, by rw [sz]; exact r.up, n1, n2, n3, r.small, r.len, by simp [Hp.rekey]; exact r.lk⟩, ho, ht, hp, by omega, ?_⟩
  · rw [h, blk_other _ _ _ _ (by exact n2)]; exact r.top
  · rw [h, blk_other _ _ _ _ (by exact n3)]; exact r.pl
  · rw [h, blk_set r.ky, ints_set]; rfl
  · refine r.it.of_block fun j hj => ?_
    have := ge j hj
    rw [h, blk_other _ _ _ _ (by show j ≠ kb; exact fun e => l3 (e ▸ this))]
  · intro j _ _ _ j4
    rw [h, blk_other _ _ _ _ (by exact j4)]

/-- an item is appended: w1 behind the store of its place, w2 behind the append, w3 behind the store of the slice -/
theorem Rep.put {base : Nat → Prop} {hb pb kb : Nat} {w w1 w2 : World} {v v' : Value} {s : Hp.St} (r : Rep base hb pb kb w v s) (x : Nat) (hx : s.items.length + 1 ≤ s.place.length)
    (h : ∀ j, j < w.heap.size → w1.heap[j]? = (w.setCell ⟨pb, x, none⟩ (.int .i64 s.items.length)).heap[j]?) (hs : w.heap.size ≤ w1.heap.size) (ho : w1.os = w.os) (ht : w1.tape = w.tape) (hp : w1.output = w.output)
    (g : w1.grownBy w2 v.ownBlock) (own : w2.ownsRow 0 3 1 v' (s.items.length + 1) (nats s.items ++ [.int .i64 x])) (hat : v'.ownBlock = v.ownBlock ∨ v'.ownBlock = some w1.heap.size) :
    (Rep base hb pb kb (w2.setCell ⟨hb, 0, none⟩ v') v' (Hp.put s x) ∧ Fr base hb pb kb w (w2.setCell ⟨hb, 0, none⟩ v')) ∧ w2.cell? ⟨hb, 0, none⟩ = some v ∧ w2.frozen? ⟨hb, 0, none⟩ = false := by
  have l1 := r.lo1; have l2 := r.lo2; have l3 := r.lo3
  have n1 := r.ne1; have n2 := r.ne2; have n3 := r.ne3
  have up := r.up
  have ge := r.it.ge
  have small : ∀ j, ¬ base j → j < w.heap.size := fun j hj => by
    rcases Nat.lt_or_ge j w.heap.size with h' | h'
    · exact h'
    · exact absurd (up j h') hj
  have keep : ∀ j, ¬ base j → w2.heap[j]? = (w.setCell ⟨pb, x, none⟩ (.int .i64 s.items.length)).heap[j]? := by
    intro j hj
    have sj := small j hj
    rw [g.block j (by omega) (fun e => hj (ge j e.symm)), h j sj]
  have own' : ∀ k, v'.ownBlock = some k → base k := by
    intro k hk
    rcases hat with e | e
    · rw [e] at hk; exact ge k hk
    · rw [e] at hk; simp at hk; subst hk; exact up _ hs
  have top2 := (keep hb l1).trans ((blk_other w ⟨pb, x, none⟩ (.int .i64 s.items.length) hb n1).trans r.top)
  have pl : (Hp.put s x).place.length = s.place.length := by simp [Hp.put]
  have il : (Hp.put s x).items.length = s.items.length + 1 := by simp [Hp.put]
  refine ⟨⟨⟨?_, ?_, ?_, ?_, l1, l2, l3, ?_, n1, n2, n3, by rw [pl]; exact r.small, by rw [pl, il]; exact hx, by rw [pl]; exact r.lk⟩, g.os.trans ho, g.tape.trans ht, g.output.trans hp, ?_, ?_⟩, blk_cell top2 rfl, blk_free top2 0⟩
  · rw [blk_set top2, pl]; rfl
  · rw [blk_other _ _ _ _ (by exact n1.symm), keep pb l2, blk_set r.pl, ints_set]; rfl
  · rw [blk_other _ _ _ _ (by exact n2.symm), keep kb l3, blk_other _ _ _ _ (by exact n3.symm)]; exact r.ky
  · have : Own w2 base v' (Hp.put s x).items := by
      unfold Own; rw [il, show nats (Hp.put s x).items = nats s.items ++ [.int .i64 x] from by simp [nats, Hp.put]]; exact ⟨own, own'⟩
    refine this.of_block fun j hj => ?_
    have := this.ge j hj
    rw [blk_other _ _ _ _ (by show j ≠ hb; exact fun e => l1 (e ▸ this))]
  · intro k hk; have := g.size; simp [World.setCell] at hk; exact up k (by omega)
  · have := g.size; simp [World.setCell]; omega
  · intro j j1 j2 j3 _
    rw [blk_other _ _ _ _ (by exact j2), keep j j1, blk_other _ _ _ _ (by exact j3)]

theorem Own.lt {w : World} {base : Nat → Prop} {v : Value} {l : List Nat} (h : Own w base v l) : ∀ k, v.ownBlock = some k → k < w.heap.size := by
  obtain ⟨⟨_, h2⟩, _⟩ := h
  intro k hk
  rcases h2 with ⟨h2, _⟩ | ⟨g, cap, cur, hv, hg, hh, _⟩
  · subst h2; simp [Value.ownBlock] at hk
  · subst hv; simp [Value.ownBlock] at hk; subst hk; exact blk_lt hh

theorem alloc_get (w : World) (o : Obj) (k : Nat) (h : k < w.heap.size) : (w.alloc o).heap[k]? = w.heap[k]? := by
  show (w.heap.push o)[k]? = _
  rw [Array.getElem?_push, if_neg (by omega)]

set_option maxHeartbeats 400000 in
theorem set_nil (x k : Int) (w : World) :
    Calls Try.prog 10 #[.pointer none, .int .i64 x, .int .i64 k] w fun e w' => e = .returned (.bool false) ∧ w = w' := by
  go_enter Try.func10, Try.ntmps10
  go_wp2_with fail
  go_ret
  exact ⟨rfl, rfl⟩

set_option maxHeartbeats 400000 in
theorem set_no {base : Nat → Prop} {hb pb kb : Nat} {w : World} {v : Value} {s : Hp.St} (r : Rep base hb pb kb w v s) (x k : Int) (h : x < 0 ∨ (s.place.length : Int) ≤ x) :
    Calls Try.prog 10 #[.pointer (some ⟨hb, 0, none⟩), .int .i64 x, .int .i64 k] w fun e w' => e = .returned (.bool false) ∧ w = w' := by
  have c1 := r.c1
  rcases h with h | h
  · go_enter Try.func10, Try.ntmps10
    go_wp2_with fail
    go_ret
    exact ⟨rfl, rfl⟩
  · have h0 : (0 : Int) ≤ x := by omega
    go_enter Try.func10, Try.ntmps10
    go_wp2_with fail
    go_ret
    exact ⟨rfl, rfl⟩

theorem cell_drew_eq {W5 W4 : World} (h : W5 = W4.drew) {a : Addr} {v : Value} (q : W4.cell? a = some v) : W5.cell? a = some v := by rw [h]; exact q

/-- what holds of the state in which the item has its place -/
structure Mid (s S3 : Hp.St) (x : Nat) (k : Int) (p : Nat) : Prop where
  wf : Hp.Wf S3
  hx : x < S3.place.length
  hp : S3.place.getD x 0 = p
  hl : p < S3.len
  set : Hp.set s x k = Hp.settle (Hp.rekey S3 x k) p

theorem Mid.mk' {s : Hp.St} (f : Hp.Wf s) {x : Nat} (hx : x < s.place.length) (k : Int) : ∃ p, Mid s (Hp.enter s x) x k p := by
  obtain ⟨a, b, c⟩ := Hp.enter_at f hx
  refine ⟨((Hp.enter s x).place.getD x 0).toNat, ?_, by rw [c]; exact hx, by omega, b, rfl⟩
  unfold Hp.enter
  split
  · rename_i h; exact f.put hx h
  · exact f

set_option maxHeartbeats 1000000 in
theorem set_old {base : Nat → Prop} {hb pb kb : Nat} {w : World} {v : Value} {s : Hp.St} (r : Rep base hb pb kb w v s) (f : Hp.Wf s) (x : Nat) (k : Int) (hx : x < s.place.length) (hn : 0 ≤ s.place.getD x 0) :
    Calls Try.prog 10 #[.pointer (some ⟨hb, 0, none⟩), .int .i64 x, .int .i64 k] w fun e w' => e = .returned (.bool true) ∧ (∃ v', Rep base hb pb kb w' v' (Hp.set s x k)) ∧ Fr base hb pb kb w w' := by
  have c1 := r.c1
  have c0 := r.c0
  have cp := r.cp hx
  have hx' : (x : Int) < (s.place.length : Int) := by omega
  have hx0 : ((x : Int) < 0) = False := by simp
  obtain ⟨b5, c5, hv0⟩ := r.slice
  subst hv0
  obtain ⟨p, m⟩ := Mid.mk' f hx k
  have en : Hp.enter s x = s := by unfold Hp.enter; rw [if_neg (by omega)]
  rw [en] at m
  have sm := r.small
  obtain ⟨W3, hx3, P3, hp3, SET⟩ : Hid (Hp.Wf s) ∧ x < s.place.length ∧ Hid (s.place.getD x 0 = (p : Int)) ∧ p < s.len ∧ Hid (Hp.set s x k = Hp.settle (Hp.rekey s x k) p) := ⟨Lib.hid m.wf, m.hx, Lib.hid m.hp, m.hl, Lib.hid m.set⟩
  rw [P3.out] at cp
  have r3 := r
  have fr3 := Fr.refl base hb pb kb w
  clear m en hn f r cp c1 c0
  have c1 := r3.c1
  have cp := r3.cp hx
  rw [P3.out] at cp
  go_enter Try.func10, Try.ntmps10
  have n2 := r3.ne2
  have d2 := r3.c2
  have dk := r3.ck hx3
  have fk := blk_free r3.ky x
  obtain ⟨r4, fr4⟩ := r3.rekey (w' := (w).setCell ⟨kb, x, none⟩ (.int .i64 k)) x k rfl rfl rfl rfl
  have q1 := r4.c1
  have q0 := r4.c0
  have qp := r4.cp (i := x) hx3
  rw [show (Hp.rekey s x k).place = s.place from rfl] at q1 qp
  rw [P3.out] at qp
  have fr5 := fr3.trans fr4
  have hx3' : (x : Int) < (s.place.length : Int) := by omega
  have R4 := Lib.hid r4
  have W4 := Lib.hid (W3.out.rekey x k)
  clear fr4 r4 fr3 r3
  go_wp2_with fail
  obtain ⟨W4', hW4⟩ : ∃ W, W = (w).setCell ⟨kb, x, none⟩ (.int .i64 k) := ⟨_, rfl⟩
  rw [← hW4] at q0 q1 qp R4 fr5 ⊢
  clear hW4
  refine wp_region_still_tail 16 (by kernel_rfl) (by kernel_rfl) ?_
  simp only [List.take_succ_cons, List.take_zero, List.drop_succ_cons, List.drop_zero]
  obtain ⟨W5, hW5⟩ : ∃ W, W = W4'.drew := ⟨_, rfl⟩
  rw [show ({ heap := W4'.heap, tape := W4'.tape, drawn := W4'.drawn + 1, os := W4'.os, output := W4'.output } : World) = W5 from hW5.symm]
  replace q0 := cell_drew_eq hW5 q0
  replace q1 := cell_drew_eq hW5 q1
  replace qp := cell_drew_eq hW5 qp
  have R5 := Lib.hid (show Rep base hb pb kb W5 _ _ from by rw [hW5]; exact R4.out.drewN 1)
  have fr5 : Fr base hb pb kb w W5 := by rw [hW5]; exact fr5.drewN 1
  clear R4 hW5
  repeat still_step
  refine wpStill_nil ?_
  go_wp2_with fail
  refine (settle_at R5.out W4.out _ _ p rfl rfl hp3).mono ?_
  rintro e w5 ⟨rfl, r5, fr6⟩
  have RES : (∃ v', Rep base hb pb kb w5 v' (Hp.set s x k)) ∧ Fr base hb pb kb w w5 := by
    rw [SET.out]; exact ⟨⟨_, r5⟩, fr5.trans fr6⟩
  clear r5 fr6 fr5
  go_wp2_with fail
  go_ret
  exact ⟨rfl, RES⟩

set_option maxHeartbeats 1000000 in
theorem set_new {base : Nat → Prop} {hb pb kb : Nat} {w : World} {v : Value} {s : Hp.St} (r : Rep base hb pb kb w v s) (f : Hp.Wf s) (x : Nat) (k : Int) (hx : x < s.place.length) (hn : s.place.getD x 0 < 0) (hlen : s.items.length + 1 ≤ s.place.length) :
    Calls Try.prog 10 #[.pointer (some ⟨hb, 0, none⟩), .int .i64 x, .int .i64 k] w fun e w' => e = .returned (.bool true) ∧ (∃ v', Rep base hb pb kb w' v' (Hp.set s x k)) ∧ Fr base hb pb kb w w' := by
  have c1 := r.c1
  have c0 := r.c0
  have cp := r.cp hx
  have fp := blk_free r.pl x
  have hx' : (x : Int) < (s.place.length : Int) := by omega
  have hx0 : ((x : Int) < 0) = False := by simp
  obtain ⟨b0, cap0, hv0⟩ := r.slice
  subst hv0
  obtain ⟨p, mm⟩ := Mid.mk' f hx k
  have en : Hp.enter s x = Hp.put s x := by unfold Hp.enter; rw [if_pos hn]
  generalize s.place.getD x 0 = z at cp hn
  obtain ⟨i0, hi, hz0, hz1, hz2⟩ := info_parts Try.info3
  have k0 : (w.setCell ⟨pb, x, none⟩ (.int .i64 s.len)).cell? ⟨hb, 0, none⟩ = some (.slice b0 s.len cap0) := (World.cell?_of_block (blk_other w ⟨pb, x, none⟩ (.int .i64 s.len) hb r.ne1)).trans c0
  have own0 : Own ((w.setCell ⟨pb, x, none⟩ (.int .i64 s.len)).alloc (.cells #[.int .i64 x] 3)).drew base (.slice b0 s.len cap0) s.items := by
    refine r.it.of_block fun j hj => ?_
    have a1 := r.it.ge j hj
    have a2 := r.it.lt j hj
    have a3 := r.lo2
    show ((w.setCell ⟨pb, x, none⟩ (.int .i64 s.len)).alloc _).heap[j]? = _
    rw [alloc_get _ _ _ (by simp [World.setCell]; exact a2), blk_other _ _ _ _ (by show j ≠ pb; exact fun e => a3 (e ▸ a1))]
  have PUT : ∀ v' w2, _ → _ → _ → _ := fun v' w2 hg ho ha => r.put (v' := v') (w2 := w2) (w1 := ((w.setCell ⟨pb, x, none⟩ (.int .i64 s.len)).alloc (.cells #[.int .i64 x] 3)).drew) x hlen
    (fun j hj => alloc_get _ _ _ (by simp [World.setCell]; exact hj)) (by simp [World.setCell, World.alloc, World.drew]) rfl rfl rfl hg ho ha
  rw [← en] at PUT
  generalize Hp.enter s x = S3 at PUT mm
  obtain ⟨W3, hx3, P3, hp3, SET⟩ : Hid (Hp.Wf S3) ∧ x < S3.place.length ∧ Hid (S3.place.getD x 0 = (p : Int)) ∧ p < S3.len ∧ Hid (Hp.set s x k = Hp.settle (Hp.rekey S3 x k) p) := ⟨Lib.hid mm.wf, mm.hx, Lib.hid mm.hp, mm.hl, Lib.hid mm.set⟩
  clear mm en
  have PUTH := Lib.hid PUT
  have OWN0 := Lib.hid own0
  clear PUT own0
  have sm := r.small
  go_enter Try.func10, Try.ntmps10
  go_wp2_with fail
  go_region
  go_wp2_with (at_builtin; refine wpList_append_own_at _ rfl _ _ 22 rfl 0 3 i0 (.int .i64 0) 1 8 Try.underlying22 hi hz0 hz1 hz2 rfl (by decide) _ _ _ rfl OWN0.out.1 ⟨w.heap.size, 0, none⟩ 1 1 [.int .i64 x] rfl rfl ?c1 ?c2 ?c3 ?c4 ?c5 ?_)
  case c1 =>
    intro j u hj
    cases j with
    | zero =>
      simp at hj; subst hj
      show ((w.setCell ⟨pb, x, none⟩ (.int .i64 s.len)).alloc (.cells #[.int .i64 x] 3)).cell? ⟨w.heap.size, 0, none⟩ = _
      exact blk_cell (C := #[.int .i64 x]) (t := 3) (by rw [show w.heap.size = (w.setCell ⟨pb, x, none⟩ (.int .i64 s.len)).heap.size from by simp [World.setCell]]; exact (MapKept.heap_alloc _ _).1) rfl
    | succ j => simp at hj
  case c2 => simp [Value.oneCell']
  case c3 => unfold maxLen; omega
  case c4 => omega
  case c5 => exact Nat.zero_le _
  intro v' w2 hown' hgrow _ hat
  obtain ⟨⟨r3, fr3⟩, e0, fz⟩ := PUTH.out v' w2 hgrow hown' (hat.imp id fun e => by rw [e]; simp)
  clear PUTH OWN0 hat hown' hgrow k0 c0 c1 cp fp
  obtain ⟨b5, c5, hv5⟩ := r3.slice
  subst hv5
  have n2 := r3.ne2
  have d2 := r3.c2
  have dk := r3.ck hx3
  have fk := blk_free r3.ky x
  obtain ⟨r4, fr4⟩ := r3.rekey (w' := (w2.setCell ⟨hb, 0, none⟩ (.slice b5 S3.len c5)).setCell ⟨kb, x, none⟩ (.int .i64 k)) x k rfl rfl rfl rfl
  have q1 := r4.c1
  have q0 := r4.c0
  have qp := r4.cp (i := x) hx3
  rw [show (Hp.rekey S3 x k).place = S3.place from rfl] at q1 qp
  rw [P3.out] at qp
  have fr5 := fr3.trans fr4
  have hx3' : (x : Int) < (S3.place.length : Int) := by omega
  have R4 := Lib.hid r4
  have W4 := Lib.hid (W3.out.rekey x k)
  clear fr4 r4 fr3 r3
  go_wp2_with fail
  obtain ⟨W4', hW4⟩ : ∃ W, W = (w2.setCell ⟨hb, 0, none⟩ (.slice b5 S3.len c5)).setCell ⟨kb, x, none⟩ (.int .i64 k) := ⟨_, rfl⟩
  rw [← hW4] at q0 q1 qp R4 fr5 ⊢
  clear hW4
  refine wp_region_still_tail 16 (by kernel_rfl) (by kernel_rfl) ?_
  simp only [List.take_succ_cons, List.take_zero, List.drop_succ_cons, List.drop_zero]
  obtain ⟨W5, hW5⟩ : ∃ W, W = W4'.drew := ⟨_, rfl⟩
  rw [show ({ heap := W4'.heap, tape := W4'.tape, drawn := W4'.drawn + 1, os := W4'.os, output := W4'.output } : World) = W5 from hW5.symm]
  replace q0 := cell_drew_eq hW5 q0
  replace q1 := cell_drew_eq hW5 q1
  replace qp := cell_drew_eq hW5 qp
  have R5 := Lib.hid (show Rep base hb pb kb W5 _ _ from by rw [hW5]; exact R4.out.drewN 1)
  have fr5 : Fr base hb pb kb w W5 := by rw [hW5]; exact fr5.drewN 1
  clear R4 hW5
  repeat still_step
  refine wpStill_nil ?_
  go_wp2_with fail
  refine (settle_at R5.out W4.out _ _ p rfl rfl hp3).mono ?_
  rintro e w5 ⟨rfl, r5, fr6⟩
  have RES : (∃ v', Rep base hb pb kb w5 v' (Hp.set s x k)) ∧ Fr base hb pb kb w w5 := by
    rw [SET.out]; exact ⟨⟨_, r5⟩, fr5.trans fr6⟩
  clear r5 fr6 fr5
  go_wp2_with fail
  go_ret
  exact ⟨rfl, RES⟩

end Go.Proofs.Ytnlcckajldkchaa
