/-
  The blocks of a segment, in whatever order.
-/
/-
  A segment's start and its end.
-/
import Derived.Test.YtombnejipaoinaaGreatExn7
namespace Go.Ex
open Go

section
variable {E : Env} {sz : Nat} {run : Oper → Tm → St → Option (Value × St)} {ops : Array Oper} {tm0 : Tm} {S0 : St} {st : Nat → DS} {vs : Nat → Value}
variable (hc : Ch E sz run ops tm0 S0 st vs)

theorem Here.mono {i0 : Nat} {X Y : Nat → Prop} (h : ∀ j, X j → Y j) {id : Nat} {o : VObj} (a : Here E run ops st vs i0 X id o) : Here E run ops st vs i0 Y id o := by
  rcases a with a | ⟨j, g, S1, a1, a2, a3⟩
  · exact .inl a
  · exact .inr ⟨j, g, S1, a1, h j a2, a3⟩
theorem Res.lt {j : Nat} {h : Tr VObj} {S1 : St} (a : Res E run ops st vs j h S1) : j < ops.size := by
  obtain ⟨o, h1, -⟩ := a.op
  exact (Array.getElem?_eq_some_iff.1 h1).1
include hc
theorem Here.fn {i0 : Nat} {X : Nat → Prop} (hlt : ∀ id o, (st i0).C.h.get id = some o → id < (st i0).C.n) {id : Nat} {o o' : VObj} (a : Here E run ops st vs i0 X id o) (b : Here E run ops st vs i0 X id o') : o = o' := by
  have lo : ∀ j, i0 ≤ j → j < ops.size → (st i0).C.n ≤ (st j).C.n := fun j h1 h2 => hc.mono h1 (by omega)
  rcases a with a | ⟨j, g, S1, a1, a2, a3, a4, a5, a6⟩ <;> rcases b with b | ⟨k, g', S1', b1, b2, b3, b4, b5, b6⟩
  · rw [a] at b; exact Option.some.inj b
  · have := hlt _ _ a; have := lo k b1 b3.lt; omega
  · have := hlt _ _ b; have := lo j a1 a3.lt; omega
  · have hjk : j = k := by
      rcases Nat.lt_trichotomy j k with c | c | c
      · have := hc.mono (i := j + 1) (j := k) (by omega) (by have := b3.lt; omega); omega
      · exact c
      · have := hc.mono (i := k + 1) (j := j) (by omega) (by have := a3.lt; omega); omega
    subst hjk
    obtain ⟨-, e⟩ := a3.uniq b3
    subst e
    rw [a6] at b6; exact Option.some.inj b6
end

/-- the memory after the operations X of the segment from i0 on -/
structure MI (E : Env) (run : Oper → Tm → St → Option (Value × St)) (ops : Array Oper) (st : Nat → DS) (vs : Nat → Value) (B0 : Nat) (i0 : Nat) (X : Nat → Prop) (D1 : Dm) (w1 : World) (D : Dm) (w : World) : Prop where
  base : B0 ≤ w1.heap.size
  le : D1.le D
  ext : ∀ id, (∀ j, i0 ≤ j → X j → j < ops.size → (st j).C.n ≤ id → id < (st (j + 1)).C.n → False) → D id = D1 id
  size : w1.heap.size ≤ w.heap.size
  os : w.os = w1.os
  tape : w.tape = w1.tape
  output : w.output = w1.output
  out : ∀ k, k < B0 → (∀ i o l, (st i0).C.h.get i = some o → D1 i = some l → l.b ≠ k) → w.heap[k]? = w1.heap[k]?
  blk : ∀ id o, Here E run ops st vs i0 X id o → ∃ l ob, D id = some l ∧ w.heap[l.b]? = some ob ∧ RO D l o ob
  inj : ∀ id id' o o' l l', Here E run ops st vs i0 X id o → Here E run ops st vs i0 X id' o' → D id = some l → D id' = some l' → l.b = l'.b → id = id'
  new : ∀ id o l, Here E run ops st vs i0 X id o → (st i0).C.n ≤ id → D id = some l → B0 ≤ l.b

section
variable {E : Env} {sz : Nat} {run : Oper → Tm → St → Option (Value × St)} {ops : Array Oper} {tm0 : Tm} {S0 : St} {st : Nat → DS} {vs : Nat → Value}
variable (hc : Ch E sz run ops tm0 S0 st vs) (hr : RegOK ops)
include hc hr
theorem MI.view {B0 i0 i : Nat} {X : Nat → Prop} {D1 D : Dm} {w1 w : World} (h0 : SegAt E ops st i0) (h1 : i0 ≤ i) (hb : ∀ k, i0 ≤ k → k < i → ¬ Bar E ops st k) (hS1 : RS D1 (st i0).C w1) (hM : MI E run ops st vs B0 i0 X D1 w1 D w)
    (anc : ∀ j, bitB ((masks ops).getD i 0) j = true → X j) {h : Tr VObj} {S1 : St} (hres : Res E run ops st vs i h S1) :
    RS D ⟨h, (st i).C.n, BIG⟩ w := by
  obtain ⟨o, ho, -⟩ := hres.op
  have hs := hres.lt
  have see : ∀ id o', h.get id = some o' → Here E run ops st vs i0 (fun j => X j ∧ j < i) id o' := fun id o' e =>
    hc.sees h0 h1 hs hb (fun j hj => ⟨anc j hj, hr.lt i o ho j hj⟩) hres e
  have up : ∀ id o', Here E run ops st vs i0 (fun j => X j ∧ j < i) id o' → Here E run ops st vs i0 X id o' := fun id o' e => e.mono fun j hj => hj.1
  refine ⟨⟨fun id o' e => hM.blk id o' (up id o' (see id o' e)), fun id id' o' o2 l l' e e' hl hl' hb => hM.inj id id' o' o2 l l' (up _ _ (see _ _ e)) (up _ _ (see _ _ e')) hl hl' hb⟩, fun id o' e => ?_⟩
  show id < (st i).C.n
  rcases see id o' e with q | ⟨j, g, S2, q1, q2, q3, q4, q5, q6⟩
  · exact Nat.lt_of_lt_of_le (hS1.lt id o' q) (hc.mono h1 (by omega))
  · exact Nat.lt_of_lt_of_le q5 (hc.mono (by omega) (by omega))

theorem MI.other {B0 i0 i : Nat} {X : Nat → Prop} {D1 D D' : Dm} {w1 w w' : World} (h0 : SegAt E ops st i0) (h1 : i0 ≤ i) (hb : ∀ k, i0 ≤ k → k < i → ¬ Bar E ops st k) (hS1 : RS D1 (st i0).C w1) (hM : MI E run ops st vs B0 i0 X D1 w1 D w)
    (anc : ∀ j, bitB ((masks ops).getD i 0) j = true → X j) {h : Tr VObj} {S1 : St} (hres : Res E run ops st vs i h S1) (hRS : RS D' S1 w') (hF : Fr D ⟨h, (st i).C.n, BIG⟩ w D' S1 w') :
    MI E run ops st vs B0 i0 (fun j => X j ∨ j = i) D1 w1 D' w' := by
  have hV := hM.view hc hr h0 h1 hb hS1 anc hres
  have hs := hres.lt
  obtain ⟨o, ho, -⟩ := hres.op
  have see : ∀ id o', h.get id = some o' → Here E run ops st vs i0 X id o' := fun id o' e => (hc.sees h0 h1 hs hb anc hres e)
  have lt0 : ∀ id o', (st i0).C.h.get id = some o' → id < (st i0).C.n := hS1.lt
  have old : ∀ id o', h.get id = some o' → S1.h.get id = some o' := fun id o' e => by
    have hlt : id < (st i).C.n := hV.lt id o' e
    rw [hF.old id hlt (Nat.lt_of_lt_of_le hlt hres.wm)]; exact e
  -- what was there
  have keep : ∀ id o', Here E run ops st vs i0 X id o' → ∃ l ob, D id = some l ∧ D' id = some l ∧ w'.heap[l.b]? = some ob ∧ RO D' l o' ob := fun id o' a => by
    obtain ⟨l, ob, b1, b2, b3⟩ := hM.blk id o' a
    by_cases c : ∃ i2 o2 l2, h.get i2 = some o2 ∧ D i2 = some l2 ∧ l2.b = l.b
    · obtain ⟨i2, o2, l2, c1, c2, c3⟩ := c
      have e := hM.inj i2 id o2 o' l2 l (see _ _ c1) a c2 b1 c3
      subst e
      have e2 := Here.fn hc lt0 (see _ _ c1) a
      subst e2
      obtain ⟨l', ob', d1, d2, d3⟩ := hRS.rh.blk _ _ (old _ _ c1)
      have := hF.le _ _ b1
      rw [this] at d1; cases d1
      exact ⟨l, ob', b1, this, d2, d3⟩
    · have hlt : l.b < w.heap.size := by
        rcases Nat.lt_or_ge l.b w.heap.size with q | q
        · exact q
        · rw [Array.getElem?_eq_none q] at b2; cases b2
      refine ⟨l, ob, b1, hF.le _ _ b1, ?_, b3.mono hF.le⟩
      rw [hF.out l.b hlt fun i2 o2 l2 g1 g2 g3 => c ⟨i2, o2, l2, g1, g2, g3⟩]
      exact b2
  have split : ∀ id o', Here E run ops st vs i0 (fun j => X j ∨ j = i) id o' → Here E run ops st vs i0 X id o' ∨ ((st i).C.n ≤ id ∧ id < (st (i + 1)).C.n ∧ S1.h.get id = some o') := fun id o' a => by
    rcases a with a | ⟨j, g, S2, a1, a2, a3, a4, a5, a6⟩
    · exact .inl (.inl a)
    · by_cases c : j = i
      · subst c
        obtain ⟨-, e⟩ := a3.uniq hres
        subst e
        exact .inr ⟨a4, a5, a6⟩
      · exact .inl (.inr ⟨j, g, S2, a1, a2.resolve_right c, a3, a4, a5, a6⟩)
  -- a new one's place is new
  have fresh : ∀ id o' l, (st i).C.n ≤ id → S1.h.get id = some o' → D' id = some l → w.heap.size ≤ l.b := fun id o' l a1 a2 a3 => by
    rcases hF.img id o' l a2 a3 with q | ⟨i2, o2, l2, q1, q2, q3⟩
    · exact q
    · exfalso
      have e := hRS.rh.inj i2 id o2 o' l2 l (old _ _ q1) a2 (hF.le _ _ q2) a3 q3
      have hlt : i2 < (st i).C.n := hV.lt _ _ q1
      omega
  have bl : ∀ id o' l, Here E run ops st vs i0 X id o' → D id = some l → l.b < w.heap.size := fun id o' l a hl => by
    obtain ⟨l', ob, b1, b2, -⟩ := hM.blk id o' a
    rw [hl] at b1; cases b1
    rcases Nat.lt_or_ge l.b w.heap.size with q | q
    · exact q
    · rw [Array.getElem?_eq_none q] at b2; cases b2
  refine ⟨hM.base, hM.le.trans hF.le, fun id hid => ?_, Nat.le_trans hM.size hF.size, hF.os.trans hM.os, hF.tape.trans hM.tape, hF.output.trans hM.output, fun k hk hn => ?_, fun id o' a => ?_, fun id id' o1 o2 l l' a b hl hl' e => ?_, fun id o' l a hge hl => ?_⟩
  · rw [← hM.ext id fun j g1 g2 g3 g4 g5 => hid j g1 (.inl g2) g3 g4 g5]
    refine hF.ext id ?_
    rcases Nat.lt_or_ge id (st i).C.n with q | q
    · exact .inl q
    · refine .inr ?_
      rcases Nat.lt_or_ge id (st (i + 1)).C.n with q2 | q2
      · exact absurd q2 fun q2 => hid i h1 (.inr rfl) hs q q2
      · rw [hres.n]; exact q2
  · rw [hF.out k (Nat.lt_of_lt_of_le hk (Nat.le_trans hM.base hM.size)) ?_, hM.out k hk hn]
    intro i2 o2 l2 g1 g2 g3
    rcases see i2 o2 g1 with q | q
    · obtain ⟨l3, ob, b1, -⟩ := hS1.rh.blk i2 o2 q
      have := hM.le _ _ b1
      rw [g2] at this; cases this
      exact hn i2 o2 l2 q b1 g3
    · have hge : (st i0).C.n ≤ i2 := by
        obtain ⟨j, g, S2, q1, q2, q3, q4, -⟩ := q
        exact Nat.le_trans (hc.mono q1 (by have := q3.lt; omega)) q4
      have := hM.new i2 o2 l2 (see i2 o2 g1) hge g2
      omega
  · rcases split id o' a with a | ⟨a1, a2, a3⟩
    · obtain ⟨l, ob, -, b2, b3, b4⟩ := keep id o' a
      exact ⟨l, ob, b2, b3, b4⟩
    · exact hRS.rh.blk id o' a3
  · rcases split id o1 a with a | ⟨a1, a2, a3⟩ <;> rcases split id' o2 b with b | ⟨b1, b2, b3⟩
    · obtain ⟨la, -, c1, c2, -⟩ := keep id o1 a
      obtain ⟨lb, -, d1, d2, -⟩ := keep id' o2 b
      rw [hl] at c2; cases c2
      rw [hl'] at d2; cases d2
      exact hM.inj id id' o1 o2 l l' a b c1 d1 e
    · obtain ⟨la, -, c1, c2, -⟩ := keep id o1 a
      rw [hl] at c2; cases c2
      have := bl id o1 l a c1
      have := fresh id' o2 l' b1 b3 hl'
      omega
    · obtain ⟨lb, -, d1, d2, -⟩ := keep id' o2 b
      rw [hl'] at d2; cases d2
      have := bl id' o2 l' b d1
      have := fresh id o1 l a1 a3 hl
      omega
    · exact hRS.rh.inj id id' o1 o2 l l' a3 b3 hl hl' e
  · rcases split id o' a with a | ⟨a1, a2, a3⟩
    · obtain ⟨la, -, c1, c2, -⟩ := keep id o' a
      rw [hl] at c2; cases c2
      exact hM.new id o' l a hge c1
    · exact Nat.le_trans hM.base (Nat.le_trans hM.size (fresh id o' l a1 a3 hl))

set_option linter.unusedSectionVars false in
/-- a new variable, at whatever time -/
theorem MI.alloc {B0 i0 i : Nat} {X : Nat → Prop} {D1 D D' : Dm} {w1 w w' : World} (h1 : i0 ≤ i) (hM : MI E run ops st vs B0 i0 X D1 w1 D w) {h : Tr VObj} {S1 S2 : St} {r : VObj} (hres : Res E run ops st vs i h S1)
    (hone : ∀ id o, (st i).C.n ≤ id → id < (st (i + 1)).C.n → S1.h.get id = some o → id = (st i).C.n ∧ o = r) (hS2 : ∀ id o, S2.h.get id = some o ↔ id = (st i).C.n ∧ o = r) (hn2 : S2.n = (st (i + 1)).C.n) (hRS : RS D' S2 w') (hF : Fr D ⟨.nil, (st i).C.n, BIG⟩ w D' S2 w') :
    MI E run ops st vs B0 i0 (fun j => X j ∨ j = i) D1 w1 D' w' := by
  have hs := hres.lt
  have split : ∀ id o', Here E run ops st vs i0 (fun j => X j ∨ j = i) id o' → Here E run ops st vs i0 X id o' ∨ (id = (st i).C.n ∧ o' = r) := fun id o' a => by
    rcases a with a | ⟨j, g, S3, a1, a2, a3, a4, a5, a6⟩
    · exact .inl (.inl a)
    · by_cases c : j = i
      · subst c
        obtain ⟨-, e⟩ := a3.uniq hres
        subst e
        exact .inr (hone id o' a4 a5 a6)
      · exact .inl (.inr ⟨j, g, S3, a1, a2.resolve_right c, a3, a4, a5, a6⟩)
  have bl : ∀ id o' l, Here E run ops st vs i0 X id o' → D id = some l → l.b < w.heap.size := fun id o' l a hl => by
    obtain ⟨l', ob, b1, b2, -⟩ := hM.blk id o' a
    rw [hl] at b1; cases b1
    rcases Nat.lt_or_ge l.b w.heap.size with q | q
    · exact q
    · rw [Array.getElem?_eq_none q] at b2; cases b2
  have keep : ∀ id o', Here E run ops st vs i0 X id o' → ∃ l ob, D id = some l ∧ D' id = some l ∧ w'.heap[l.b]? = some ob ∧ RO D' l o' ob := fun id o' a => by
    obtain ⟨l, ob, b1, b2, b3⟩ := hM.blk id o' a
    refine ⟨l, ob, b1, hF.le _ _ b1, ?_, b3.mono hF.le⟩
    rw [hF.out l.b (bl id o' l a b1) fun i2 o2 l2 g1 => by cases g1]
    exact b2
  have mine : S2.h.get (st i).C.n = some r := (hS2 _ _).2 ⟨rfl, rfl⟩
  have fresh : ∀ l, D' (st i).C.n = some l → w.heap.size ≤ l.b := fun l hl => by
    rcases hF.img _ _ l mine hl with q | ⟨i2, o2, l2, q1, -⟩
    · exact q
    · cases q1
  refine ⟨hM.base, hM.le.trans hF.le, fun id hid => ?_, Nat.le_trans hM.size hF.size, hF.os.trans hM.os, hF.tape.trans hM.tape, hF.output.trans hM.output, fun k hk hn => ?_, fun id o' a => ?_, fun id id' o1 o2 l l' a b hl hl' e => ?_, fun id o' l a hge hl => ?_⟩
  · rw [← hM.ext id fun j g1 g2 g3 g4 g5 => hid j g1 (.inl g2) g3 g4 g5]
    refine hF.ext id ?_
    rcases Nat.lt_or_ge id (st i).C.n with q | q
    · exact .inl q
    · refine .inr ?_
      rcases Nat.lt_or_ge id (st (i + 1)).C.n with q2 | q2
      · exact absurd q2 fun q2 => hid i h1 (.inr rfl) hs q q2
      · rw [hn2]; exact q2
  · rw [hF.out k (Nat.lt_of_lt_of_le hk (Nat.le_trans hM.base hM.size)) (fun i2 o2 l2 g1 => by cases g1), hM.out k hk hn]
  · rcases split id o' a with a | ⟨rfl, rfl⟩
    · obtain ⟨l, ob, -, b2, b3, b4⟩ := keep id o' a
      exact ⟨l, ob, b2, b3, b4⟩
    · exact hRS.rh.blk _ _ mine
  · rcases split id o1 a with a | ⟨rfl, rfl⟩ <;> rcases split id' o2 b with b | ⟨rfl, rfl⟩
    · obtain ⟨la, -, c1, c2, -⟩ := keep id o1 a
      obtain ⟨lb, -, d1, d2, -⟩ := keep id' o2 b
      rw [hl] at c2; cases c2
      rw [hl'] at d2; cases d2
      exact hM.inj id id' o1 o2 l l' a b c1 d1 e
    · obtain ⟨la, -, c1, c2, -⟩ := keep id o1 a
      rw [hl] at c2; cases c2
      have := bl id o1 l a c1
      have := fresh l' hl'
      omega
    · obtain ⟨lb, -, d1, d2, -⟩ := keep id' o2 b
      rw [hl'] at d2; cases d2
      have := bl id' o2 l' b d1
      have := fresh l hl
      omega
    · rfl
  · rcases split id o' a with a | ⟨rfl, rfl⟩
    · obtain ⟨la, -, c1, c2, -⟩ := keep id o' a
      rw [hl] at c2; cases c2
      exact hM.new id o' l a hge c1
    · exact Nat.le_trans hM.base (Nat.le_trans hM.size (fresh l hl))
end
end Go.Ex

namespace Go.Ex
open Go

section
variable {E : Env} {sz : Nat} {run : Oper → Tm → St → Option (Value × St)} {ops : Array Oper} {tm0 : Tm} {S0 : St} {st : Nat → DS} {vs : Nat → Value}

/-- a number made by an operation of X from i0 on -/
def Win (ops : Array Oper) (st : Nat → DS) (i0 : Nat) (X : Nat → Prop) (id : Nat) : Prop := ∃ j, i0 ≤ j ∧ X j ∧ j < ops.size ∧ (st j).C.n ≤ id ∧ id < (st (j + 1)).C.n
theorem MI.ext' {B0 i0 : Nat} {X : Nat → Prop} {D1 D : Dm} {w1 w : World} (hM : MI E run ops st vs B0 i0 X D1 w1 D w) {id : Nat} (h : ¬ Win ops st i0 X id) : D id = D1 id :=
  hM.ext id fun j g1 g2 g3 g4 g5 => h ⟨j, g1, g2, g3, g4, g5⟩

/-- what stands as it stood at the region's begin, but for the numbers of X -/
structure FO (ops : Array Oper) (st : Nat → DS) (D0 : Dm) (S0 : St) (w0 : World) (i0 : Nat) (X : Nat → Prop) (D : Dm) (S : St) (w : World) : Prop where
  n : S0.n ≤ S.n
  ext : ∀ id, (id < S0.n ∨ S.n ≤ id) → ¬ Win ops st i0 X id → D id = D0 id
  le : D0.le D
  size : w0.heap.size ≤ w.heap.size
  os : w.os = w0.os
  tape : w.tape = w0.tape
  output : w.output = w0.output
  out : ∀ k, k < w0.heap.size → (∀ i o l, S0.h.get i = some o → D0 i = some l → l.b ≠ k) → w.heap[k]? = w0.heap[k]?
  img : ∀ i o l, S.h.get i = some o → D i = some l → w0.heap.size ≤ l.b ∨ ∃ i' o' l', S0.h.get i' = some o' ∧ D0 i' = some l' ∧ l'.b = l.b
  wm : S.wm ≤ S0.wm
  old : ∀ i, i < S0.n → i < S.wm → S.h.get i = S0.h.get i

variable (hc : Ch E sz run ops tm0 S0 st vs)
include hc
theorem Ch.hereM {i0 m : Nat} {X : Nat → Prop} (h0 : SegAt E ops st i0) (h1 : i0 ≤ m) (hN : m ≤ ops.size) (hb : ∀ k, i0 ≤ k → k < m → ¬ Bar E ops st k) (hX : ∀ j, i0 ≤ j → j < m → (st j).C.n < (st (j + 1)).C.n → X j) :
    ∀ id o, (st m).C.h.get id = some o → Here E run ops st vs i0 X id o := fun _ _ e => hc.here h0 h1 hN hb hX e
theorem MI.rs {B0 i0 m : Nat} {X : Nat → Prop} {D1 D : Dm} {w1 w : World} (h0 : SegAt E ops st i0) (h1 : i0 ≤ m) (hN : m ≤ ops.size) (hb : ∀ k, i0 ≤ k → k < m → ¬ Bar E ops st k) (hS1 : RS D1 (st i0).C w1) (hM : MI E run ops st vs B0 i0 X D1 w1 D w)
    (hX : ∀ j, i0 ≤ j → j < m → (st j).C.n < (st (j + 1)).C.n → X j) : RS D (st m).C w := by
  have here := hc.hereM h0 h1 hN hb hX
  refine ⟨⟨fun id o e => hM.blk id o (here id o e), fun id id' o o' l l' e e' hl hl' q => hM.inj id id' o o' l l' (here _ _ e) (here _ _ e') hl hl' q⟩, fun id o e => ?_⟩
  rcases (hc.made h0 m h1 hN hb).2.2 id o e with q | ⟨j, g, S2, q1, q2, q3, q4, q5, q6⟩
  · exact Nat.lt_of_lt_of_le (hS1.lt id o q) (hc.mono h1 hN)
  · exact Nat.lt_of_lt_of_le q5 (hc.mono (by omega) hN)
theorem FO.seg {D0 : Dm} {S00 : St} {w0 : World} {i0 m : Nat} {X : Nat → Prop} {D1 D : Dm} {w1 w : World} (h0 : SegAt E ops st i0) (h1 : i0 ≤ m) (hN : m ≤ ops.size) (hb : ∀ k, i0 ≤ k → k < m → ¬ Bar E ops st k) (hS1 : RS D1 (st i0).C w1) (hM : MI E run ops st vs w0.heap.size i0 X D1 w1 D w)
    (hX : ∀ j, i0 ≤ j → j < m → (st j).C.n < (st (j + 1)).C.n → X j) (hF : FO ops st D0 S00 w0 i0 X D1 (st i0).C w1) : FO ops st D0 S00 w0 i0 X D (st m).C w := by
  obtain ⟨s1, s2, s3, s4⟩ := hc.stay h1 hN hb
  have here := hc.hereM h0 h1 hN hb hX
  have mono := hc.mono h1 hN
  refine ⟨Nat.le_trans hF.n mono, fun id hid hw => ?_, hF.le.trans hM.le, Nat.le_trans hF.size hM.size, hM.os.trans hF.os, hM.tape.trans hF.tape, hM.output.trans hF.output, fun k hk hn => ?_, fun id o l e hl => ?_, by rw [s3]; exact hF.wm, fun id hid hwm => ?_⟩
  · rw [hM.ext' hw]
    exact hF.ext id (by omega) hw
  · rw [hM.out k hk ?_, hF.out k hk hn]
    intro i o l g1 g2 g3
    rcases hF.img i o l g1 g2 with q | ⟨i', o', l', q1, q2, q3⟩
    · omega
    · exact hn i' o' l' q1 q2 (q3.trans g3)
  · rcases (hc.made h0 m h1 hN hb).2.2 id o e with q | ⟨j, g, S2, q1, q2, q3, q4, q5, q6⟩
    · obtain ⟨l', ob, b1, -⟩ := hS1.rh.blk id o q
      have := hM.le _ _ b1
      rw [hl] at this; cases this
      exact hF.img id o l q b1
    · exact .inl (hM.new id o l (here id o e) (Nat.le_trans (hc.mono q1 (by omega)) q4) hl)
  · rw [s3] at hwm
    rw [s4 id (Nat.lt_of_lt_of_le hid hF.n)]
    exact hF.old id hid hwm
theorem FO.bar {D0 : Dm} {S00 : St} {w0 : World} {i0 i : Nat} {X : Nat → Prop} {D D' : Dm} {w w' : World} (_h1 : i0 ≤ i) (hs : i < ops.size) (hn0 : S00.n ≤ (st i0).C.n) (hF : FO ops st D0 S00 w0 i0 X D (st i).C w) (hFr : Fr D (st i).C w D' (st (i + 1)).C w') :
    FO ops st D0 S00 w0 (i + 1) (fun j => X j ∨ j = i) D' (st (i + 1)).C w' := by
  refine ⟨Nat.le_trans hF.n hFr.n, fun id hid hw => ?_, hF.le.trans hFr.le, Nat.le_trans hF.size hFr.size, hFr.os.trans hF.os, hFr.tape.trans hF.tape, hFr.output.trans hF.output, fun k hk hn => ?_, fun id o l e hl => ?_, Nat.le_trans hFr.wm hF.wm, fun id hid hwm => ?_⟩
  · have h2 := hF.n
    have h3 := hFr.n
    rw [hFr.ext id (by omega), hF.ext id (by omega)]
    rintro ⟨j, g1, g2, g3, g4, g5⟩
    have m0 := hc.mono (i := i0) (j := j) g1 (by omega)
    rcases Nat.lt_or_ge i j with c | c
    · exact hw ⟨j, c, .inl g2, g3, g4, g5⟩
    · have m1 := hc.mono (i := j + 1) (j := i + 1) (by omega) (by omega)
      omega
  · rw [hFr.out k (Nat.lt_of_lt_of_le hk hF.size) ?_, hF.out k hk hn]
    intro i o l g1 g2 g3
    rcases hF.img i o l g1 g2 with q | ⟨i', o', l', q1, q2, q3⟩
    · omega
    · exact hn i' o' l' q1 q2 (q3.trans g3)
  · rcases hFr.img id o l e hl with q | ⟨i', o', l', q1, q2, q3⟩
    · exact .inl (Nat.le_trans hF.size q)
    · rcases hF.img i' o' l' q1 q2 with q4 | ⟨i2, o2, l2, q4, q5, q6⟩
      · exact .inl (q3 ▸ q4)
      · exact .inr ⟨i2, o2, l2, q4, q5, q6.trans q3⟩
  · rw [hFr.old id (Nat.lt_of_lt_of_le hid hF.n) hwm, hF.old id hid (Nat.lt_of_lt_of_le hwm hFr.wm)]
theorem FO.fin {D0 : Dm} {S00 : St} {w0 : World} {i0 : Nat} {X : Nat → Prop} {D : Dm} {w : World} (hn0 : S00.n ≤ (st i0).C.n) (hF : FO ops st D0 S00 w0 i0 X D (st ops.size).C w) : Fr D0 S00 w0 D (st ops.size).C w := by
  refine ⟨hF.n, fun id hid => hF.ext id hid ?_, hF.le, hF.size, hF.os, hF.tape, hF.output, hF.out, hF.img, hF.wm, hF.old⟩
  rintro ⟨j, g1, g2, g3, g4, g5⟩
  have m0 := hc.mono (i := i0) (j := j) g1 (by omega)
  have m1 := hc.mono (i := j + 1) (j := ops.size) (by omega) (Nat.le_refl _)
  omega

/-- behind a barrier: the new variables that have been made already stay -/
theorem MI.next {B0 i0 i : Nat} {X : Nat → Prop} {D1 D D' : Dm} {w1 w w' : World} (h0 : SegAt E ops st i0) (h1 : i0 ≤ i) (hs : i < ops.size) (hb : ∀ k, i0 ≤ k → k < i → ¬ Bar E ops st k) (hM : MI E run ops st vs B0 i0 X D1 w1 D w)
    (hX : ∀ j, i0 ≤ j → j < i → (st j).C.n < (st (j + 1)).C.n → X j) (hRS : RS D (st i).C w) (hRS' : RS D' (st (i + 1)).C w') (hF : Fr D (st i).C w D' (st (i + 1)).C w') : MI E run ops st vs B0 (i + 1) (fun j => X j ∨ j = i) D' w' D' w' := by
  have here := hc.hereM h0 h1 (by omega) hb hX
  have mono1 := hc.mono (i := i) (j := i + 1) (by omega) (by omega)
  have split : ∀ id o, Here E run ops st vs (i + 1) (fun j => X j ∨ j = i) id o → (st (i + 1)).C.h.get id = some o ∨ (Here E run ops st vs i0 X id o ∧ (st (i + 1)).C.n ≤ id) := fun id o a => by
    rcases a with a | ⟨j, g, S1, a1, a2, a3, a4, a5, a6⟩
    · exact .inl a
    · have hj := a3.lt
      have m := hc.mono (i := i + 1) (j := j) a1 (by omega)
      rcases a2 with a2 | a2
      · exact .inr ⟨.inr ⟨j, g, S1, by omega, a2, a3, a4, a5, a6⟩, by omega⟩
      · omega
  have early : ∀ id o, Here E run ops st vs i0 X id o → (st (i + 1)).C.n ≤ id → ∃ l ob, D id = some l ∧ D' id = some l ∧ l.b < w.heap.size ∧ w'.heap[l.b]? = some ob ∧ RO D' l o ob ∧ ∀ i2 o2 l2, (st i).C.h.get i2 = some o2 → D i2 = some l2 → l2.b ≠ l.b := fun id o a hge => by
    obtain ⟨l, ob, b1, b2, b3⟩ := hM.blk id o a
    have hlt : l.b < w.heap.size := by
      rcases Nat.lt_or_ge l.b w.heap.size with q | q
      · exact q
      · rw [Array.getElem?_eq_none q] at b2; cases b2
    have no : ∀ i2 o2 l2, (st i).C.h.get i2 = some o2 → D i2 = some l2 → l2.b ≠ l.b := fun i2 o2 l2 g1 g2 g3 => by
      have e := hM.inj i2 id o2 o l2 l (here _ _ g1) a g2 b1 g3
      have := hRS.lt i2 o2 g1
      omega
    exact ⟨l, ob, b1, hF.le _ _ b1, hlt, (hF.out l.b hlt no).trans b2, b3.mono hF.le, no⟩
  have cross : ∀ id id' o o' l l', (st (i + 1)).C.h.get id = some o → Here E run ops st vs i0 X id' o' → (st (i + 1)).C.n ≤ id' → D' id = some l → D' id' = some l' → l.b = l'.b → False := fun id id' o o' l l' a b hge hl hl' e => by
    obtain ⟨l2, ob, c1, c2, c3, -, -, no⟩ := early id' o' b hge
    rw [hl'] at c2; cases c2
    rcases hF.img id o l a hl with q | ⟨i', o2, l2, q1, q2, q3⟩
    · omega
    · exact no i' o2 l2 q1 q2 (q3.trans e)
  refine ⟨Nat.le_trans hM.base (Nat.le_trans hM.size hF.size), .refl _, fun _ _ => rfl, Nat.le_refl _, rfl, rfl, rfl, fun _ _ _ => rfl, fun id o a => ?_, fun id id' o o' l l' a b hl hl' e => ?_, fun id o l a hge hl => ?_⟩
  · rcases split id o a with a | ⟨a, hge⟩
    · exact hRS'.rh.blk id o a
    · obtain ⟨l, ob, -, c2, -, c4, c5, -⟩ := early id o a hge
      exact ⟨l, ob, c2, c4, c5⟩
  · rcases split id o a with a | ⟨a, ha⟩ <;> rcases split id' o' b with b | ⟨b, hbb⟩
    · exact hRS'.rh.inj id id' o o' l l' a b hl hl' e
    · exact (cross id id' o o' l l' a b hbb hl hl' e).elim
    · exact (cross id' id o' o l' l b a ha hl' hl e.symm).elim
    · obtain ⟨la, -, c1, c2, -⟩ := early id o a ha
      obtain ⟨lb, -, d1, d2, -⟩ := early id' o' b hbb
      rw [hl] at c2; cases c2
      rw [hl'] at d2; cases d2
      exact hM.inj id id' o o' l l' a b c1 d1 e
  · rcases split id o a with a | ⟨a, ha⟩
    · have := hRS'.lt id o a
      omega
    · obtain ⟨la, -, c1, c2, -⟩ := early id o a ha
      rw [hl] at c2; cases c2
      exact hM.new id o l a (Nat.le_trans (hc.mono (i := i0) (j := i + 1) (by omega) (by omega)) ha) c1
omit hc in
theorem MI.start {B0 i0 : Nat} {X : Nat → Prop} {D1 : Dm} {w1 : World} (hB : B0 ≤ w1.heap.size) (hS1 : RS D1 (st i0).C w1) (hX : ∀ j, ¬ X j) : MI E run ops st vs B0 i0 X D1 w1 D1 w1 := by
  have here : ∀ id o, Here E run ops st vs i0 X id o → (st i0).C.h.get id = some o := fun id o e => by
    rcases e with e | ⟨j, g, S1, a1, a2, a3, a4, a5, a6⟩
    · exact e
    · exact absurd a2 (hX j)
  exact ⟨hB, .refl D1, fun _ _ => rfl, Nat.le_refl _, rfl, rfl, rfl, fun _ _ _ => rfl, fun id o e => hS1.rh.blk id o (here id o e), fun id id' o o' l l' e e' => hS1.rh.inj id id' o o' l l' (here _ _ e) (here _ _ e'), fun id o l e hge _ => absurd (hS1.lt id o (here id o e)) (by omega)⟩
omit hc in
theorem MI.same {B0 i0 i : Nat} {X : Nat → Prop} {D1 D : Dm} {w1 w : World} (hM : MI E run ops st vs B0 i0 X D1 w1 D w) (hi : (st i).C.n = (st (i + 1)).C.n) : MI E run ops st vs B0 i0 (fun j => X j ∨ j = i) D1 w1 D w := by
  have here : ∀ id o, Here E run ops st vs i0 (fun j => X j ∨ j = i) id o → Here E run ops st vs i0 X id o := fun id o e => by
    rcases e with e | ⟨j, g, S1, a1, a2, a3, a4, a5, a6⟩
    · exact .inl e
    · rcases a2 with a2 | a2
      · exact .inr ⟨j, g, S1, a1, a2, a3, a4, a5, a6⟩
      · subst a2; omega
  exact ⟨hM.base, hM.le, fun id h => hM.ext id fun j g1 g2 => h j g1 (.inl g2), hM.size, hM.os, hM.tape, hM.output, hM.out, fun id o e => hM.blk id o (here id o e), fun id id' o o' l l' e e' => hM.inj id id' o o' l l' (here _ _ e) (here _ _ e'), fun id o l e => hM.new id o l (here id o e)⟩
end
end Go.Ex
