/-
  What New has put together: the laws of its two loops.
-/
import Derived.Test.YtombnejipaoinaaGreatNwi
namespace Go.Proofs.YtombnejipaoinaaGreat
open Go.RowKit

theorem grown_refl (w : World) (r : Option Nat) : w.grownBy w r := ⟨rfl, rfl, rfl, Nat.le_refl _, fun _ _ _ => rfl⟩
theorem grown_one (w : World) (b i : Nat) (u : Value) : w.grownBy (w.setCell ⟨b, i, none⟩ u) (some b) :=
  ⟨rfl, rfl, rfl, by simp [World.setCell], fun k _ hne => blk_other _ _ _ _ (fun e => hne (by rw [e]))⟩
theorem grown_same {w w1 w2 : World} {r : Option Nat} (h : w.grownBy w1 r) (hb : w1.grownBy w2 r) : w.grownBy w2 r :=
  ⟨hb.os.trans h.os, hb.tape.trans h.tape, hb.output.trans h.output, Nat.le_trans h.size hb.size, fun k hk hne => (hb.block k (Nat.lt_of_lt_of_le hk h.size) hne).trans (h.block k hk hne)⟩
theorem grown_new {w w1 w2 : World} {r r2 : Option Nat} (h : w.grownBy w1 r) (hb : w1.grownBy w2 r2) (hn : ∀ j, r2 = some j → w.heap.size ≤ j) : w.grownBy w2 r :=
  ⟨hb.os.trans h.os, hb.tape.trans h.tape, hb.output.trans h.output, Nat.le_trans h.size hb.size, fun k hk hne => (hb.block k (Nat.lt_of_lt_of_le hk h.size) (fun e => by have := hn k e.symm; omega)).trans (h.block k hk hne)⟩
theorem grown_below {w w1 : World} (hb : Below w.heap.size w w1) (r : Option Nat) : w.grownBy w1 r := ⟨hb.os, hb.tape, hb.output, hb.size, fun k hk _ => hb.block k hk⟩

def lsE (r now : Int) (vi vr vs va : Value) : List Value := [.int .u32 r, vi, vr, .int .i64 now, vs, va, .slice none 0 0, .slice none 0 0]

/-- the head of the first loop -/
structure L1 (Wb : World) (sb : Nat) (r now : Int) (vi vr : Value) (ifs : List If9) (k : Nat) (vs vw : Value) (wr : World) : Prop where
  hk : k ≤ ifs.length
  blk : wr.heap[sb]? = some (.cells (lsE r now vi vr vs (.slice none 0 0)).toArray 33 (0, 0))
  st : wr.ownsRow Wb.heap.size 73 15 vs k (((ifs.take k).map ifsE).flatten)
  wd : wr.ownsRow Wb.heap.size 22 1 vw k ((((ifs.take k).map If9.area).map u32E).flatten)
  dj : vs.ownBlock = none ∨ vs.ownBlock ≠ vw.ownBlock
  g : Wb.grownBy wr (some sb)

/-- a state has been put into its row, and the row stored -/
theorem L1.put {Wb : World} {sb : Nat} {r now : Int} {vi vr : Value} {ifs : List If9} {k : Nat} {vs vw : Value} {wr : World} (R : L1 Wb sb r now vi vr ifs k vs vw wr) (hs : sb < Wb.heap.size) (c : k < ifs.length) {W2 W3 : World} {vs' : Value} (hb : Below wr.heap.size wr W2)
    (own' : W3.ownsRow Wb.heap.size 73 15 vs' (k + 1) (((ifs.take k).map ifsE).flatten ++ ifsE ifs[k])) (hg : W2.grownBy W3 vs.ownBlock) (dj : vs'.ownBlock = vs.ownBlock ∨ vs'.ownBlock = some W2.heap.size) :
    W3.heap[sb]? = some (.cells (lsE r now vi vr vs (.slice none 0 0)).toArray 33 (0, 0)) ∧
    (W3.setCell ⟨sb, 4, none⟩ vs').heap[sb]? = some (.cells (lsE r now vi vr vs' (.slice none 0 0)).toArray 33 (0, 0)) ∧
    (W3.setCell ⟨sb, 4, none⟩ vs').ownsRow Wb.heap.size 73 15 vs' (k + 1) (((ifs.take (k + 1)).map ifsE).flatten) ∧
    (W3.setCell ⟨sb, 4, none⟩ vs').ownsRow Wb.heap.size 22 1 vw k ((((ifs.take k).map If9.area).map u32E).flatten) ∧
    (vs'.ownBlock = none ∨ vs'.ownBlock ≠ vw.ownBlock) ∧ Wb.grownBy (W3.setCell ⟨sb, 4, none⟩ vs') (some sb) ∧
    (∀ b o, wr.heap.size ≤ b → W2.heap[b]? = some o → b ≠ sb → (W3.setCell ⟨sb, 4, none⟩ vs').heap[b]? = some o) ∧ Wb.heap.size ≤ (W3.setCell ⟨sb, 4, none⟩ vs').heap.size := by
  have gs := R.g.size
  have hsw : sb < wr.heap.size := Nat.lt_of_lt_of_le hs gs
  have h2 : W2.heap[sb]? = some (.cells (lsE r now vi vr vs (.slice none 0 0)).toArray 33 (0, 0)) := (hb.block _ hsw).trans R.blk
  have nsb : ∀ j, vs.ownBlock = some j → Wb.heap.size ≤ j ∧ j < wr.heap.size := fun j hj => World.ownsRow.lt R.st j hj
  have h3 : W3.heap[sb]? = some (.cells (lsE r now vi vr vs (.slice none 0 0)).toArray 33 (0, 0)) := (hg.block _ (blk_lt h2) (fun e => by have := (nsb sb e.symm).1; omega)).trans h2
  have hw2 : W2.ownsRow Wb.heap.size 22 1 vw k ((((ifs.take k).map If9.area).map u32E).flatten) := own_below R.wd hb
  have hw3 : W3.ownsRow Wb.heap.size 22 1 vw k ((((ifs.take k).map If9.area).map u32E).flatten) := World.ownsRow.kept hw2 hg (by
    by_cases c : vw.ownBlock = none
    · exact .inl c
    · rcases R.dj with e | e
      · rw [e]; exact .inr c
      · exact .inr (fun h => e h.symm))
  have lw : ∀ j, vw.ownBlock = some j → Wb.heap.size ≤ j ∧ j < wr.heap.size := fun j hj => World.ownsRow.lt R.wd j hj
  have g3 : Wb.grownBy W3 (some sb) := grown_new (grown_new R.g (grown_below hb none) (fun j hj => by cases hj)) hg (fun j hj => (nsb j hj).1)
  refine ⟨h3, ?_, ?_, World.ownsRow.kept hw3 (grown_one W3 sb 4 vs') (.inr (fun e => by have := (lw sb e).1; omega)), ?_, grown_same g3 (grown_one W3 sb 4 vs'), fun b o hbw ho hne => ?_, ?_⟩
  · have h1 := blk_set h3 4 vs'
    simp only [lsE, List.setIfInBounds_toArray, List.set_cons_zero, List.set_cons_succ] at h1
    exact h1
  · have o2 : W3.ownsRow Wb.heap.size 73 15 vs' (k + 1) (((ifs.take (k + 1)).map ifsE).flatten) := by
      rw [List.take_succ_eq_append_getElem c, List.map_append, List.flatten_append]
      simpa using own'
    exact World.ownsRow.kept o2 (grown_one W3 sb 4 vs') (.inr (fun e => by have := (World.ownsRow.lt o2 sb e).1; omega))
  · rcases dj with e | e
    · rw [e]; exact R.dj
    · rw [e]
      refine .inr (fun h => ?_)
      have := (lw _ h.symm).2
      have := hb.size
      omega
  · refine (blk_other _ _ _ _ hne).trans ((hg.block b (blk_lt ho) (fun e => by have := (nsb b e.symm).2; omega)).trans ho)
  · have := g3.size; simpa [World.setCell] using this

/-- the area's number has been put into its row -/
theorem L1.next {Wb : World} {sb : Nat} {r now : Int} {vi vr : Value} {ifs : List If9} {k : Nat} {vs vw : Value} {wr : World} (hs : sb < Wb.heap.size) (c : k < ifs.length)
    (h1 : wr.heap[sb]? = some (.cells (lsE r now vi vr vs (.slice none 0 0)).toArray 33 (0, 0)))
    (h2 : wr.ownsRow Wb.heap.size 73 15 vs (k + 1) (((ifs.take (k + 1)).map ifsE).flatten))
    (h3 : wr.ownsRow Wb.heap.size 22 1 vw k ((((ifs.take k).map If9.area).map u32E).flatten))
    (h4 : vs.ownBlock = none ∨ vs.ownBlock ≠ vw.ownBlock) (h5 : Wb.grownBy wr (some sb)) {W4 W5 : World} {vw' : Value} (hb : Below wr.heap.size wr W4)
    (own' : W5.ownsRow Wb.heap.size 22 1 vw' (k + 1) ((((ifs.take k).map If9.area).map u32E).flatten ++ u32E (ifs[k]).area)) (hg : W4.grownBy W5 vw.ownBlock) (dj : vw'.ownBlock = vw.ownBlock ∨ vw'.ownBlock = some W4.heap.size) :
    L1 Wb sb r now vi vr ifs (k + 1) vs vw' W5 := by
  have lw : ∀ j, vw.ownBlock = some j → Wb.heap.size ≤ j ∧ j < wr.heap.size := fun j hj => World.ownsRow.lt h3 j hj
  have ls : ∀ j, vs.ownBlock = some j → Wb.heap.size ≤ j ∧ j < wr.heap.size := fun j hj => World.ownsRow.lt h2 j hj
  have b4 := (hb.block _ (blk_lt h1)).trans h1
  refine ⟨c, (hg.block _ (blk_lt b4) (fun e => by have := (lw sb e.symm).1; omega)).trans b4, World.ownsRow.kept (own_below h2 hb) hg h4, ?_, ?_, grown_new (grown_new h5 (grown_below hb none) (fun j hj => by cases hj)) hg (fun j hj => (lw j hj).1)⟩
  · rw [List.take_succ_eq_append_getElem c, List.map_append, List.map_append, List.flatten_append]
    simpa using own'
  · rcases dj with e | e
    · rw [e]; exact h4
    · rw [e]
      by_cases n : vs.ownBlock = none
      · exact .inl n
      · refine .inr (fun h => ?_)
        have := (ls _ h).2
        have := hb.size
        omega

/-- the head of the second loop -/
structure L2 (W2 : World) (sb : Nat) (r now : Int) (vi vr vs : Value) (l : List Int) (k : Nat) (va : Value) (wr : World) : Prop where
  hk : k ≤ l.length
  blk : wr.heap[sb]? = some (.cells (lsE r now vi vr vs va).toArray 33 (0, 0))
  ar : wr.ownsRow W2.heap.size 50 2 va k (((l.take k).map arE).flatten)
  g : W2.grownBy wr (some sb)

theorem L2.put {W2 : World} {sb : Nat} {r now : Int} {vi vr vs : Value} {l : List Int} {k : Nat} {va : Value} {wr : World} (R : L2 W2 sb r now vi vr vs l k va wr) (hs : sb < W2.heap.size) (c : k < l.length) {W3 W4 : World} {va' : Value} (hb : Below wr.heap.size wr W3)
    (own' : W4.ownsRow W2.heap.size 50 2 va' (k + 1) (((l.take k).map arE).flatten ++ arE l[k])) (hg : W3.grownBy W4 va.ownBlock) :
    W4.heap[sb]? = some (.cells (lsE r now vi vr vs va).toArray 33 (0, 0)) ∧ L2 W2 sb r now vi vr vs l (k + 1) va' (W4.setCell ⟨sb, 5, none⟩ va') := by
  have la : ∀ j, va.ownBlock = some j → W2.heap.size ≤ j ∧ j < wr.heap.size := fun j hj => World.ownsRow.lt R.ar j hj
  have b3 := (hb.block _ (blk_lt R.blk)).trans R.blk
  have b4 := (hg.block _ (blk_lt b3) (fun e => by have := (la sb e.symm).1; omega)).trans b3
  have g4 : W2.grownBy W4 (some sb) := grown_new (grown_new R.g (grown_below hb none) (fun j hj => by cases hj)) hg (fun j hj => (la j hj).1)
  refine ⟨b4, c, ?_, ?_, grown_same g4 (grown_one W4 sb 5 va')⟩
  · have h1 := blk_set b4 5 va'
    simp only [lsE, List.setIfInBounds_toArray, List.set_cons_zero, List.set_cons_succ] at h1
    exact h1
  · have o2 : W4.ownsRow W2.heap.size 50 2 va' (k + 1) (((l.take (k + 1)).map arE).flatten) := by
      rw [List.take_succ_eq_append_getElem c, List.map_append, List.flatten_append]
      simpa using own'
    exact World.ownsRow.kept o2 (grown_one W4 sb 5 va') (.inr (fun e => by have := (World.ownsRow.lt o2 sb e).1; omega))

/-- eight cells are stored -/
def put8 (w : World) (b : Nat) (c0 c1 c2 c3 c4 c5 c6 c7 : Value) : World :=
  (((((((w.setCell ⟨b, 0, none⟩ c0).setCell ⟨b, 1, none⟩ c1).setCell ⟨b, 2, none⟩ c2).setCell ⟨b, 3, none⟩ c3).setCell ⟨b, 4, none⟩ c4).setCell ⟨b, 5, none⟩ c5).setCell ⟨b, 6, none⟩ c6).setCell ⟨b, 7, none⟩ c7
theorem put8_grown (w : World) (b : Nat) (c0 c1 c2 c3 c4 c5 c6 c7 : Value) : w.grownBy (put8 w b c0 c1 c2 c3 c4 c5 c6 c7) (some b) :=
  grown_same (grown_same (grown_same (grown_same (grown_same (grown_same (grown_same (grown_one _ b 0 c0) (grown_one _ b 1 c1)) (grown_one _ b 2 c2)) (grown_one _ b 3 c3)) (grown_one _ b 4 c4)) (grown_one _ b 5 c5)) (grown_one _ b 6 c6)) (grown_one _ b 7 c7)
theorem put8_blk {w : World} {b : Nat} {t : TypeId} {d0 d1 d2 d3 d4 d5 d6 d7 : Value} (h : w.heap[b]? = some (.cells #[d0, d1, d2, d3, d4, d5, d6, d7] t (0, 0))) (c0 c1 c2 c3 c4 c5 c6 c7 : Value) : (put8 w b c0 c1 c2 c3 c4 c5 c6 c7).heap[b]? = some (.cells #[c0, c1, c2, c3, c4, c5, c6, c7] t (0, 0)) := by
  have h1 := blk_set (blk_set (blk_set (blk_set (blk_set (blk_set (blk_set (blk_set h 0 c0) 1 c1) 2 c2) 3 c3) 4 c4) 5 c5) 6 c6) 7 c7
  simp only [List.setIfInBounds_toArray, List.set_cons_zero, List.set_cons_succ] at h1
  exact h1

def newC (r : Int) (ifs : List If9) (rgs : List Arg) (now : Int) : Int := if cfC r ifs rgs = 0 then (if now < 0 ∨ 1099511627776 < now then 5 else 0) else cfC r ifs rgs
def newD (r : Int) (ifs : List If9) (rgs : List Arg) (now : Int) : LsD := if newC r ifs rgs now = 0 then ⟨r, ifs, rgs, now, areasL ifs⟩ else LsD.zero

theorem cfC_len {r : Int} {ifs : List If9} {rgs : List Arg} (h : cfC r ifs rgs = 0) : ifs.length ≤ 16 ∧ rgs.length ≤ 64 := by
  unfold cfC at h
  by_cases h1 : r = 0
  · rw [if_pos h1] at h; omega
  · rw [if_neg h1] at h
    by_cases h2 : ifs.length = 0
    · rw [if_pos h2] at h; omega
    · rw [if_neg h2] at h
      by_cases h3 : 16 < ifs.length ∨ 64 < rgs.length
      · rw [if_pos h3] at h; omega
      · omega

theorem zero_post {w W : World} {c : Int} (hb : Below w.heap.size w W) : NwPost w LsD.zero c (.returned (.tuple #[.agg #[.int .u32 0, .slice none 0 0, .slice none 0 0, .int .i64 0, .slice none 0 0, .slice none 0 0, .slice none 0 0, .slice none 0 0], .int .i64 c])) W :=
  ⟨_, _, _, _, rfl, ⟨SlV.nil 9 W, SlV.nil 4 W, SlV.nil 15 W, SlV.nil 2 W⟩, hb⟩

end Go.Proofs.YtombnejipaoinaaGreat
