/-
  inter.summarized walked.
-/
import Derived.Test.YtogdconliofblaaGreatSmz
import Derived.IntWalk
namespace Go.Proofs.YtogdconliofblaaGreat
open Go.RowKit

theorem MapF.other {P : Program} {k : TypeId} {α β : Type} {ok : α → Prop} {lit : α → Lit} {mkV : β → Value} {w w' : World} {b n row : Nat} {f : α → Option β} (h : MapF P k ok lit mkV w b n f) (hg : w.grownBy w' (some row)) (hne : b ≠ row) : MapF P k ok lit mkV w' b n f := by
  obtain ⟨D, h1, h2⟩ := h
  exact ⟨D, h1.kept hg (by simpa using hne), h2⟩

abbrev PMap (w : World) (b n : Nat) (f : Ls.Pfx → Option Int) : Prop := MapF Tryz.prog 55 pfxOk pfxLit costV w b n f
abbrev NMap (w : World) (b n : Nat) (f : Int → Option Int) : Prop := MapF Tryz.prog 3 (fun x : Int => (Lit.int .i64 x).wf = true) (intLit .i64) costV w b n f

/-- the configuration of a router, as far as it is read -/
structure Cfg where
  router : Int
  ia : Option Addr
  iN : Nat
  ic : Nat
  ra : Option Addr
  rn : Nat
  rc : Nat
def cfgE (c : Cfg) : List Value := [.int .u32 c.router, .slice c.ia c.iN c.ic, .slice c.ra c.rn c.rc]

/-- behind k routes -/
structure SmR (w : World) (c : Cfg) (l : List Arg) (into : Int) (rs : List RtH) (k : Nat) (wr : World) : Prop where
  hk : k ≤ rs.length
  m1 : PMap wr (w.heap.size + 1) k (sumK l into rs k).1
  m2 : NMap wr (w.heap.size + 2) (k * l.length) (sumK l into rs k).2
  bx : wr.heap[w.heap.size]? = some (.cells (cfgE c).toArray 26 (0, 0))
  bel : Below w.heap.size w wr
theorem SmR.size {w : World} {c : Cfg} {l : List Arg} {into : Int} {rs : List RtH} {k : Nat} {wr : World} (R : SmR w c l into rs k wr) : w.heap.size + 3 ≤ wr.heap.size := by have := R.m2.lt; omega
theorem SmR.grow {w : World} {c : Cfg} {l : List Arg} {into : Int} {rs : List RtH} {k : Nat} {wr W' : World} (R : SmR w c l into rs k wr) (g : Below wr.heap.size wr W') : SmR w c l into rs k W' :=
  ⟨R.hk, R.m1.grow g, R.m2.grow g, (g.block _ (blk_lt R.bx)).trans R.bx, R.bel.trans (g.mono R.bel.size)⟩
theorem SmR.skip {w : World} {c : Cfg} {l : List Arg} {into : Int} {rs : List RtH} {k : Nat} {wr W' : World} (R : SmR w c l into rs k wr) (hk : k < rs.length) (h : useB into rs[k].rt = false) (g : Below wr.heap.size wr W') : SmR w c l into rs (k + 1) W' := by
  have e : sumK l into rs (k + 1) = sumK l into rs k := by rw [sumK_succ l into rs hk]; unfold sumOne; rw [h]; rfl
  have R' := R.grow g
  refine ⟨hk, ?_, ?_, R'.bx, R'.bel⟩
  · rw [e]; exact R'.m1.mono (Nat.le_succ k)
  · rw [e]; exact R'.m2.mono (Nat.mul_le_mul_right _ (Nat.le_succ k))

/-- behind i ranges of route k; Wx: the world in which the route has its box -/
structure SiR (w : World) (c : Cfg) (l : List Arg) (into : Int) (rs : List RtH) (k : Nat) (r : Rt) (Wx : World) (xb : Nat) (i : Nat) (tk : Bool) (wi : World) : Prop where
  hi : i ≤ l.length
  tk : (rngK l r (sumK l into rs k).2 i).1 = tk
  m1 : PMap wi (w.heap.size + 1) k (sumK l into rs k).1
  m2 : NMap wi (w.heap.size + 2) (k * l.length + i) (rngK l r (sumK l into rs k).2 i).2
  bx : wi.heap[w.heap.size]? = some (.cells (cfgE c).toArray 26 (0, 0))
  rb : wi.heap[xb]? = some (.cells (rtE r).toArray 57 (0, 0))
  bel : Below w.heap.size w wi
  hx : w.heap.size + 3 ≤ xb
theorem SiR.grow {w : World} {c : Cfg} {l : List Arg} {into : Int} {rs : List RtH} {k : Nat} {r : Rt} {Wx : World} {xb i : Nat} {tk : Bool} {wi W' : World} (R : SiR w c l into rs k r Wx xb i tk wi) (g : Below wi.heap.size wi W') : SiR w c l into rs k r Wx xb i tk W' :=
  ⟨R.hi, R.tk, R.m1.grow g, R.m2.grow g, (g.block _ (blk_lt R.bx)).trans R.bx, (g.block _ (blk_lt R.rb)).trans R.rb, R.bel.trans (g.mono R.bel.size), R.hx⟩
theorem SiR.no {w : World} {c : Cfg} {l : List Arg} {into : Int} {rs : List RtH} {k : Nat} {r : Rt} {Wx : World} {xb i : Nat} {tk : Bool} {wi : World} (R : SiR w c l into rs k r Wx xb i tk wi) (hi : i < l.length) (h : takB l (argAt l i) r = false) : SiR w c l into rs k r Wx xb (i + 1) tk wi := by
  have e : rngK l r (sumK l into rs k).2 (i + 1) = rngK l r (sumK l into rs k).2 i := by rw [rngK, h]; rfl
  exact ⟨hi, by rw [e]; exact R.tk, R.m1, by rw [e]; exact R.m2.mono (Nat.le_succ _), R.bx, R.rb, R.bel, R.hx⟩
theorem SiR.yes {w : World} {c : Cfg} {l : List Arg} {into : Int} {rs : List RtH} {k : Nat} {r : Rt} {Wx : World} {xb i : Nat} {tk : Bool} {wi w' : World} (R : SiR w c l into rs k r Wx xb i tk wi) (hi : i < l.length) (h : takB l (argAt l i) r = true)
    (m : NMap w' (w.heap.size + 2) (k * l.length + i + 1) (maxF (rngK l r (sumK l into rs k).2 i).2 i r.cost)) (g : wi.grownBy w' (some (w.heap.size + 2))) : SiR w c l into rs k r Wx xb (i + 1) true w' := by
  have e : rngK l r (sumK l into rs k).2 (i + 1) = (true, maxF (rngK l r (sumK l into rs k).2 i).2 i r.cost) := by rw [rngK, h]; rfl
  have hx := R.hx
  refine ⟨hi, by rw [e], R.m1.other g (by omega), by rw [e]; exact m, (g.block _ (blk_lt R.bx) (by simp)).trans R.bx, (g.block _ (blk_lt R.rb) (by simp; omega)).trans R.rb, R.bel.grown g R.bel.size (fun j hj => by cases hj; omega), hx⟩
theorem SiR.done {w : World} {c : Cfg} {l : List Arg} {into : Int} {rs : List RtH} {k : Nat} {Wx : World} {xb : Nat} {tk : Bool} {wi w' : World} (hk : k < rs.length) (R : SiR w c l into rs k rs[k].rt Wx xb l.length tk wi) (hu : useB into rs[k].rt = true)
    (m : PMap w' (w.heap.size + 1) (k + 1) (if ownB into rs[k].rt tk = true then leastF (sumK l into rs k).1 rs[k].rt.pfx rs[k].rt.cost else (sumK l into rs k).1)) (g : wi.grownBy w' (some (w.heap.size + 1))) : SmR w c l into rs (k + 1) w' := by
  have e : sumK l into rs (k + 1) = (if ownB into rs[k].rt tk = true then leastF (sumK l into rs k).1 rs[k].rt.pfx rs[k].rt.cost else (sumK l into rs k).1, (rngK l rs[k].rt (sumK l into rs k).2 l.length).2) := by
    rw [sumK_succ l into rs hk]; unfold sumOne; rw [if_pos hu, R.tk]
  refine ⟨hk, by rw [e]; exact m, ?_, (g.block _ (blk_lt R.bx) (by simp)).trans R.bx, R.bel.grown g R.bel.size (fun j hj => by cases hj; omega)⟩
  rw [e]
  have := R.m2.other g (by omega)
  rw [Nat.succ_mul]
  exact this

/-- the costs put out so far -/
def SumL (l : List Arg) (into : Int) (rs : List RtH) (left : Int → Bool) (p : Ls.Pfx) (c : Int) : Prop :=
  (sumK l into rs rs.length).1 p = some c ∨ ∃ x : Int, (sumK l into rs rs.length).2 x = some c ∧ left x = false ∧ (argAt l x.toNat).adv = true ∧ (argAt l x.toNat).area ≠ into ∧ (argAt l x.toNat).pfx = p

structure SoR (w : World) (c : Cfg) (l : List Arg) (into : Int) (rs : List RtH) (rb n : Nat) (left : Int → Bool) (cnt : Nat) (g : Ls.Pfx → Option Int) (m : Nat) (wr : World) : Prop where
  rng : RangeF Tryz.prog 3 (fun x : Int => (Lit.int .i64 x).wf = true) (intLit .i64) costV wr (w.heap.size + 2) rb n (sumK l into rs rs.length).2 left cnt
  m1 : PMap wr (w.heap.size + 1) m g
  min : MinF (SumL l into rs left) g
  bx : wr.heap[w.heap.size]? = some (.cells (cfgE c).toArray 26 (0, 0))
  bel : Below w.heap.size w wr
  hm : m + cnt ≤ rs.length + n
  hr : w.heap.size + 3 ≤ rb

theorem SoR.skip {w : World} {c : Cfg} {l : List Arg} {into : Int} {rs : List RtH} {rb n : Nat} {left : Int → Bool} {cnt cnt' : Nat} {g : Ls.Pfx → Option Int} {m : Nat} {wr w1 w3 : World} (R : SoR w c l into rs rb n left cnt g m wr) {x : Int} {co : Int} (hl : left x = true) (hx : (sumK l into rs rs.length).2 x = some co)
    (h1 : RangeF Tryz.prog 3 (fun x : Int => (Lit.int .i64 x).wf = true) (intLit .i64) costV w1 (w.heap.size + 2) rb n (sumK l into rs rs.length).2 (fun z => left z && !decide (z = x)) cnt') (hc : cnt' < cnt) (hg1 : wr.grownBy w1 (some rb)) (hb : Below w1.heap.size w1 w3)
    (hno : ¬ ((argAt l x.toNat).adv = true ∧ (argAt l x.toNat).area ≠ into)) : SoR w c l into rs rb n (fun z => left z && !decide (z = x)) cnt' g m w3 := by
  have hr := R.hr
  have hm := R.hm
  have b1 := (hg1.block _ (blk_lt R.bx) (by simp; omega)).trans R.bx
  refine ⟨h1.grow hb, (R.m1.other hg1 (by omega)).grow hb, R.min.congr fun p d => ?_, (hb.block _ (blk_lt b1)).trans b1, ?_, by omega, hr⟩
  · unfold SumL
    refine or_congr Iff.rfl ⟨?_, ?_⟩
    · rintro ⟨z, h2, h3, h4⟩; exact ⟨z, h2, by simp [h3], h4⟩
    · rintro ⟨z, h2, h3, h4, h5, h6⟩
      by_cases e : z = x
      · subst e; exact absurd ⟨h4, h5⟩ hno
      · exact ⟨z, h2, by simpa [e] using h3, h4, h5, h6⟩
  · have B1 : Below w.heap.size w w1 := R.bel.grown hg1 R.bel.size (fun j hj => by cases hj; omega)
    exact B1.trans (hb.mono B1.size)

theorem SoR.take {w : World} {c : Cfg} {l : List Arg} {into : Int} {rs : List RtH} {rb n : Nat} {left : Int → Bool} {cnt cnt' : Nat} {g : Ls.Pfx → Option Int} {m : Nat} {wr w1 w3 w4 : World} (R : SoR w c l into rs rb n left cnt g m wr) {x : Int} {co : Int} (hl : left x = true) (hx : (sumK l into rs rs.length).2 x = some co)
    (h1 : RangeF Tryz.prog 3 (fun x : Int => (Lit.int .i64 x).wf = true) (intLit .i64) costV w1 (w.heap.size + 2) rb n (sumK l into rs rs.length).2 (fun z => left z && !decide (z = x)) cnt') (hc : cnt' < cnt) (hg1 : wr.grownBy w1 (some rb)) (hb : Below w1.heap.size w1 w3)
    (hyes : (argAt l x.toNat).adv = true ∧ (argAt l x.toNat).area ≠ into) (mp : PMap w4 (w.heap.size + 1) (m + 1) (leastF g (argAt l x.toNat).pfx co)) (g4 : w3.grownBy w4 (some (w.heap.size + 1))) :
    SoR w c l into rs rb n (fun z => left z && !decide (z = x)) cnt' (leastF g (argAt l x.toNat).pfx co) (m + 1) w4 := by
  have hr := R.hr
  have hm := R.hm
  have b1 := (hg1.block _ (blk_lt R.bx) (by simp; omega)).trans R.bx
  have b3 := (hb.block _ (blk_lt b1)).trans b1
  refine ⟨(h1.grow hb).kept g4 (by simp) (by simp; omega), mp, (R.min.add (argAt l x.toNat).pfx co).congr fun p d => ?_, (g4.block _ (blk_lt b3) (by simp)).trans b3, ?_, by omega, hr⟩
  · unfold SumL
    constructor
    · rintro ((h2 | ⟨z, h2, h3, h4⟩) | ⟨rfl, rfl⟩)
      · exact .inl h2
      · exact .inr ⟨z, h2, by simp [h3], h4⟩
      · exact .inr ⟨x, hx, by simp, hyes.1, hyes.2, rfl⟩
    · rintro (h2 | ⟨z, h2, h3, h4, h5, h6⟩)
      · exact .inl (.inl h2)
      · by_cases e : z = x
        · subst e; rw [hx] at h2; cases h2; exact .inr ⟨h6.symm, rfl⟩
        · exact .inl (.inr ⟨z, h2, by simpa [e] using h3, h4, h5, h6⟩)
  · have B1 : Below w.heap.size w w1 := R.bel.grown hg1 R.bel.size (fun j hj => by cases hj; omega)
    have B3 := B1.trans (hb.mono B1.size)
    exact B3.grown g4 B3.size (fun j hj => by cases hj; omega)

def SzPost (w : World) (l : List Arg) (into : Int) (rs : List RtH) (e : Ending) (w' : World) : Prop :=
  ∃ mb n g, e = .returned (.map (some mb)) ∧ PMap w' mb n g ∧ MinF (SumS l into rs) g ∧ n ≤ rs.length + rs.length * l.length ∧ Below w.heap.size w w' ∧ w.heap.size ≤ mb

theorem SoR.post {w : World} {c : Cfg} {l : List Arg} {into : Int} {rs : List RtH} {rb : Nat} {left : Int → Bool} {cnt : Nat} {g : Ls.Pfx → Option Int} {m : Nat} {wr : World} (R : SoR w c l into rs rb (rs.length * l.length) left cnt g m wr) (hl : l.length ≤ 64) (h : ∀ x : Int, (Lit.int .i64 x).wf = true → left x = false) :
    SzPost w l into rs (.returned (.map (some (w.heap.size + 1)))) wr := by
  refine ⟨_, m, g, rfl, R.m1, R.min.congr fun p d => ?_, by have := R.hm; omega, R.bel, by omega⟩
  unfold SumL SumS
  refine or_congr Iff.rfl ⟨?_, ?_⟩
  · rintro ⟨x, h1, _, h3, h4, h5⟩
    have hk := sumK_keys l into rs rs.length x d h1
    exact ⟨x.toNat, by omega, h3, h4, h5, by rw [Int.toNat_of_nonneg hk.1]; exact h1⟩
  · rintro ⟨i, hi, h3, h4, h5, h1⟩
    exact ⟨(i : Int), h1, h _ (WalkArith.wf_i64 (by omega)), by simpa using h3, by simpa using h4, by simpa using h5⟩

end Go.Proofs.YtogdconliofblaaGreat
