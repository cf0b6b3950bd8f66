/-
  slices.SortFunc at advertisements, by their keys.
-/
/-
  inter.Summaries: what its loops carry.
-/
import Derived.Test.YtogdconliofblaaGreatMrg
import Derived.Test.YtogdconliofblaaGreatBks
import Derived.Test.YtogdconliofblaaGreatIns
import Derived.Test.YtogdconliofblaaGreatSzx
import Derived.Test.YtogdconliofblaaGreatApo
namespace Go.Proofs.YtogdconliofblaaGreat
open Go.RowKit

def lkC (a b : Lsa) : Int := kkCmp (lkOf a) (lkOf b)

theorem kk_neg (a b : Kk) : kkCmp a b < 0 ↔ (a.typ < b.typ ∨ a.typ = b.typ ∧ (a.id < b.id ∨ a.id = b.id ∧ (a.len < b.len ∨ a.len = b.len ∧ a.router < b.router))) := by
  unfold kkCmp
  have h : ∀ x y : Int, cmpI x y < 0 ↔ x < y := fun x y => by unfold cmpI; split <;> (try split) <;> omega
  have hz : ∀ x y : Int, cmpI x y = 0 ↔ x = y := fun x y => by unfold cmpI; split <;> (try split) <;> omega
  by_cases h1 : a.typ = b.typ
  · rw [(hz _ _).2 h1]
    by_cases h2 : a.id = b.id
    · rw [(hz _ _).2 h2]
      by_cases h3 : a.len = b.len
      · rw [(hz _ _).2 h3]
        by_cases h4 : a.router = b.router
        · rw [(hz _ _).2 h4]; simp [orI, h1, h2, h3, h4]
        · have : ¬ cmpI a.router b.router = 0 := fun z => h4 ((hz _ _).1 z)
          simp [orI, this, h1, h2, h3, h]
      · have : ¬ cmpI a.len b.len = 0 := fun z => h3 ((hz _ _).1 z)
        simp [orI, this, h1, h2, h, h3]
    · have : ¬ cmpI a.id b.id = 0 := fun z => h2 ((hz _ _).1 z)
      simp [orI, this, h1, h, h2]
  · have : ¬ cmpI a.typ b.typ = 0 := fun z => h1 ((hz _ _).1 z)
    simp [orI, this, h, h1]

theorem lkC_lt (a b : Lsa) : ltOf lkC a b = decide (kkCmp (lkOf a) (lkOf b) < 0) := rfl

def kkLt (a b : Kk) : Prop := a.typ < b.typ ∨ a.typ = b.typ ∧ (a.id < b.id ∨ a.id = b.id ∧ (a.len < b.len ∨ a.len = b.len ∧ a.router < b.router))
theorem lkC_true (a b : Lsa) : ltOf lkC a b = true ↔ kkLt (lkOf a) (lkOf b) := by rw [lkC_lt, decide_eq_true_iff]; exact kk_neg _ _
theorem lkC_false (a b : Lsa) : ltOf lkC a b = false ↔ ¬ kkLt (lkOf a) (lkOf b) := by
  rw [lkC_lt, decide_eq_false_iff_not]
  exact ⟨fun h z => h ((kk_neg _ _).2 z), fun h z => h ((kk_neg _ _).1 z)⟩

theorem lkSWO : Go.Sort.SWO (ltOf lkC) := by
  refine ⟨fun a => ?_, fun a b c => ?_, fun x y z => ?_⟩
  · rw [lkC_false]; unfold kkLt; omega
  · rw [lkC_true, lkC_true, lkC_true]; unfold kkLt; omega
  · rw [lkC_false, lkC_false, lkC_false]; unfold kkLt; omega

theorem cmpLaysLsa (blk off size : Nat) (w : World) : CmpLays Tryz.prog 38 #[] lsaE 15 lkC blk off size w :=
  fun _ _ _ _ x y => (border_calls x y _).mono fun _ _ ⟨he, hg⟩ => ⟨he, hg.grow⟩

def LsaRow (base : Nat) (w : World) (v : Value) (l : List Lsa) : Prop := w.ownsRow base 47 15 v l.length (l.map lsaE).flatten

def SortLsaPost (base : Nat) (w : World) (v : Value) (l : List Lsa) (e : Ending) (w' : World) : Prop :=
  e = .returned (.tuple #[]) ∧ ∃ l', l'.Perm l ∧ (l'.Pairwise fun a b => 0 ≤ kkCmp (lkOf b) (lkOf a)) ∧ LsaRow base w' v l' ∧ Below base w w'

theorem sort_lsas (base : Nat) (w : World) (v : Value) (l : List Lsa) (h : LsaRow base w v l) (hl : l.length < 4611686018427387904) :
    Calls Tryz.prog 37 #[v, .func (.func 38) #[] #[]] w (SortLsaPost base w v l) := by
  rcases own_cases h with ⟨rfl, h0⟩ | ⟨g, cap, cur, rfl, hb, hlt, _⟩
  · refine (sort_none_lsa none 0 (.func (.func 38) #[] #[]) w).mono ?_
    rintro e w' ⟨rfl, rfl⟩
    have : l = [] := List.length_eq_zero_iff.1 h0
    subst this
    exact ⟨rfl, [], List.Perm.refl _, List.Pairwise.nil, h, Below.refl _ _⟩
  · have eg : ∀ args w, (callFunc 38 args).run Tryz.prog w = .ok (.enter 38 args) w := enters_of Tryz.func38 (by kernel_rfl) rfl
    have hcon := AnyQ.slices_SortFunc Tryz.sortLsa 15 Tryz.isAgg47 Tryz.sizeOf47 lsaE (fun _ => rfl) (fun x v hv => lsaE_one x v hv) lkC lkSWO 38 #[] g 0 cap l.toArray w eg (cmpLaysLsa g 0 _ w) (own_holds (enc := lsaE) (k := 15) (fun _ => rfl) h) hlt (by simpa using hl)
    change Calls Tryz.prog 37 _ _ _ at hcon
    rw [List.size_toArray] at hcon
    refine hcon.mono ?_
    rintro e w' ⟨rfl, d', n, os, hp, hs, rfl⟩
    obtain ⟨e1, e2, e3⟩ := sorted_list (l := l) (by simpa using hp) (by simpa using hs)
    obtain ⟨o1, o2⟩ := own_sorted (enc := lsaE) (k := 15) (fun _ => rfl) h (m := n) (d' := d') (os := os) e1
    refine ⟨rfl, d'.toList, e2, ?_, ?_, ?_⟩
    · refine e3.imp fun {a b} h => ?_
      rw [lkC_lt, decide_eq_false_iff_not] at h
      omega
    · have e4 : d'.toList.length = l.length := by simpa using e1
      unfold LsaRow
      rw [e4]; exact o1
    · refine ⟨o2.os, o2.tape, o2.output, o2.size, fun i hi => o2.block i (by omega) (fun e => by cases e; omega)⟩

end Go.Proofs.YtogdconliofblaaGreat

namespace Go.Proofs.YtogdconliofblaaGreat
open Go.RowKit

def sumL (router : Int) (p : Ls.Pfx) (c : Int) : Lsa := ⟨3, p.addr, p.len, router, 0, 0, 0, false, false, none, 0, 0, none, 0, 0, c, false, 0, 0⟩
def bndL (router : Int) (r : Int) (c : Int) : Lsa := ⟨4, r, 0, router, 0, 0, 0, false, false, none, 0, 0, none, 0, 0, c, false, 0, 0⟩

abbrev u32Ok (x : Int) : Prop := (Lit.int .u32 x).wf = true
abbrev UMap (w : World) (b n : Nat) (f : Int → Option Int) : Prop := MapF Tryz.prog 22 u32Ok (intLit .u32) costV w b n f

section
variable {α : Type} [DecidableEq α] {k : TypeId} {ok : α → Prop} {lit : α → Lit}

omit [DecidableEq α] in
theorem own_ne_map {β : Type} {mkV : β → Value} {base : Nat} {w : World} {v : Value} {l : List Lsa} {b n : Nat} {f : α → Option β} (o : LsaRow base w v l) (h : MapF Tryz.prog k ok lit mkV w b n f) : v.ownBlock ≠ some b := by
  obtain ⟨D, ⟨es, clock, hb, _⟩, _⟩ := h
  rcases o.2 with ⟨rfl, _⟩ | ⟨g, cap, cur, rfl, _, hg, _⟩
  · simp [Value.ownBlock]
  · intro e
    obtain rfl : g = b := by simpa [Value.ownBlock] using e
    rw [hb] at hg; cases hg
omit [DecidableEq α] in
theorem own_ne_range {β : Type} {mkV : β → Value} {base : Nat} {w : World} {v : Value} {l : List Lsa} {b r n : Nat} {f : α → Option β} {left : α → Bool} {cnt : Nat} (o : LsaRow base w v l) (h : RangeF Tryz.prog k ok lit mkV w b r n f left cnt) : v.ownBlock ≠ some r := by
  obtain ⟨D, lf, ⟨es, clock, since, seen, c0, _, _, _, _, hr, _⟩, _⟩ := h
  rcases o.2 with ⟨rfl, _⟩ | ⟨g, cap, cur, rfl, _, hg, _⟩
  · simp [Value.ownBlock]
  · intro e
    obtain rfl : g = r := by simpa [Value.ownBlock] using e
    rw [hr] at hg; cases hg

/-- advertisements of a map's entries are put out -/
structure Ou (k : TypeId) (ok : α → Prop) (lit : α → Lit) (mk : α → Int → Lsa) (w : World) (C : Cfg) (mb rb n : Nat) (g : α → Option Int) (left : α → Bool) (cnt : Nat) (out0 out : List Lsa) (v : Value) (wr : World) : Prop where
  rng : RangeF Tryz.prog k ok lit costV wr mb rb n g left cnt
  own : LsaRow (w.heap.size + 1) wr v out
  mem : ∀ x, x ∈ out ↔ x ∈ out0 ∨ ∃ p c, ok p ∧ left p = false ∧ g p = some c ∧ x = mk p c
  nd : (out.map lkOf).Nodup
  len : out.length + cnt ≤ out0.length + n
  bx : wr.heap[w.heap.size]? = some (.cells (cfgE C).toArray 26 (0, 0))
  bel : Below w.heap.size w wr
  hr : w.heap.size + 1 ≤ rb

omit [DecidableEq α] in
theorem Ou.own1 {mk : α → Int → Lsa} {w : World} {C : Cfg} {mb rb n : Nat} {g : α → Option Int} {left : α → Bool} {cnt : Nat} {out0 out : List Lsa} {v : Value} {wr w1 W3 : World} (R : Ou k ok lit mk w C mb rb n g left cnt out0 out v wr) (hg1 : wr.grownBy w1 (some rb)) (hb : Below w1.heap.size w1 W3) :
    LsaRow (w.heap.size + 1) W3 v out := by
  have h1 : LsaRow (w.heap.size + 1) w1 v out := World.ownsRow.kept R.own hg1 (.inr (own_ne_range R.own R.rng))
  exact World.ownsRow.kept (row := none) h1 (grown_of_below hb none) (by cases v.ownBlock <;> simp)

theorem Ou.step {mk : α → Int → Lsa} {w : World} {C : Cfg} {mb rb n : Nat} {g : α → Option Int} {left : α → Bool} {cnt cnt' : Nat} {out0 out : List Lsa} {v v' : Value} {wr w1 W3 w4 : World} (R : Ou k ok lit mk w C mb rb n g left cnt out0 out v wr)
    (hk : ∀ p c q d, lkOf (mk p c) = lkOf (mk q d) → p = q) (h0 : ∀ x ∈ out0, ∀ p c, lkOf x ≠ lkOf (mk p c)) {p : α} {c : Int} (hp : ok p) (hl : left p = true) (hx : g p = some c)
    (h1 : RangeF Tryz.prog k ok lit costV w1 mb rb n g (fun z => left z && !decide (z = p)) cnt') (hc : cnt' < cnt) (hg1 : wr.grownBy w1 (some rb)) (hb : Below w1.heap.size w1 W3)
    (own' : w4.ownsRow (w.heap.size + 1) 47 15 v' (out.length + 1) ((out.map lsaE).flatten ++ lsaE (mk p c))) (hg4 : W3.grownBy w4 v.ownBlock) :
    Ou k ok lit mk w C mb rb n g (fun z => left z && !decide (z = p)) cnt' out0 (out ++ [mk p c]) v' w4 := by
  have hr := R.hr
  have hlen := R.len
  have o3 := R.own1 hg1 hb
  have r3 := h1.grow hb
  have b1 := (hg1.block _ (blk_lt R.bx) (by simp; omega)).trans R.bx
  have b3 := (hb.block _ (blk_lt b1)).trans b1
  have hown : ∀ j, v.ownBlock = some j → w.heap.size + 1 ≤ j := fun j hj => (o3.lt j hj).1
  have B1 : Below w.heap.size w w1 := R.bel.grown hg1 R.bel.size (fun j hj => by cases hj; omega)
  have B3 := B1.trans (hb.mono B1.size)
  refine ⟨r3.kept hg4 (fun e => own_ne_map o3 r3.map e.symm) (fun e => own_ne_range o3 r3 e.symm), ?_, fun y => ?_, ?_, ?_, (hg4.block _ (blk_lt b3) (fun e => by have := hown _ e.symm; omega)).trans b3, B3.grown hg4 B3.size (fun j hj => by have := hown j hj; omega), hr⟩
  · unfold LsaRow
    have e : (out ++ [mk p c]).length = out.length + 1 := by simp
    have e2 : ((out ++ [mk p c]).map lsaE).flatten = (out.map lsaE).flatten ++ lsaE (mk p c) := by simp
    rw [e, e2]; exact own'
  · rw [List.mem_append, R.mem, List.mem_singleton]
    constructor
    · rintro ((h2 | ⟨q, d, hq, hlq, hgq, rfl⟩) | rfl)
      · exact .inl h2
      · exact .inr ⟨q, d, hq, by simp [hlq], hgq, rfl⟩
      · exact .inr ⟨p, c, hp, by simp, hx, rfl⟩
    · rintro (h2 | ⟨q, d, hq, hlq, hgq, rfl⟩)
      · exact .inl (.inl h2)
      · by_cases e : q = p
        · subst e; rw [hx] at hgq; cases hgq; exact .inr rfl
        · exact .inl (.inr ⟨q, d, hq, by simpa [e] using hlq, hgq, rfl⟩)
  · rw [List.map_append, List.nodup_append]
    refine ⟨R.nd, by simp, fun a ha b hb' => ?_⟩
    obtain ⟨y, hy, rfl⟩ := List.mem_map.1 ha
    simp only [List.map_cons, List.map_nil, List.mem_singleton] at hb'
    subst hb'
    rcases (R.mem y).1 hy with h2 | ⟨q, d, hq, hlq, hgq, rfl⟩
    · exact h0 y h2 p c
    · intro e
      have := hk _ _ _ _ e
      subst this
      rw [hl] at hlq; cases hlq
  · rw [List.length_append, List.length_singleton]; omega

omit [DecidableEq α] in
theorem Ou.start {mk : α → Int → Lsa} {w : World} {C : Cfg} {mb rb n cnt : Nat} {g : α → Option Int} {out0 : List Lsa} {v : Value} {w0 : World} (hrg : RangeF Tryz.prog k ok lit costV w0 mb rb n g (fun x => (g x).isSome) cnt) (hc : cnt ≤ n) (own : LsaRow (w.heap.size + 1) w0 v out0) (nd : (out0.map lkOf).Nodup)
    (bx : w0.heap[w.heap.size]? = some (.cells (cfgE C).toArray 26 (0, 0))) (bel : Below w.heap.size w w0) (hr : w.heap.size + 1 ≤ rb) : Ou k ok lit mk w C mb rb n g (fun x => (g x).isSome) cnt out0 out0 v w0 := by
  refine ⟨hrg, own, fun x => ⟨fun h => .inl h, ?_⟩, nd, by omega, bx, bel, hr⟩
  rintro (h | ⟨p, c, _, h1, h2, _⟩)
  · exact h
  · rw [h2] at h1; cases h1
end

/-- does the way count as one to a boundary router? -/
def bndB (router into : Int) (x : Rch) : Bool := (((x.boundary && !decide (x.router = router)) && !decide (x.area = into)) && (!x.inter || !decide (into = 0))) && goodB x.cost
def bndK (router into : Int) (l : List Rch) (k : Nat) : Int → Option Int := (l.take k).foldl (fun f x => if bndB router into x = true then leastF f x.router x.cost else f) (fun _ => none)
theorem bndK_succ (router into : Int) (l : List Rch) {k : Nat} (c : k < l.length) : bndK router into l (k + 1) = if bndB router into l[k] = true then leastF (bndK router into l k) l[k].router l[k].cost else bndK router into l k := by
  unfold bndK
  rw [take_fold _ _ _ _ c]

/-- behind k ways -/
structure Bn (w : World) (C : Cfg) (into : Int) (l : List Rch) (mb k : Nat) (out : List Lsa) (v : Value) (wr : World) : Prop where
  hk : k ≤ l.length
  mu : UMap wr mb k (bndK C.router into l k)
  own : LsaRow (w.heap.size + 1) wr v out
  bx : wr.heap[w.heap.size]? = some (.cells (cfgE C).toArray 26 (0, 0))
  bel : Below w.heap.size w wr
  hm : w.heap.size + 1 ≤ mb
theorem Bn.grow {w : World} {C : Cfg} {into : Int} {l : List Rch} {mb k : Nat} {out : List Lsa} {v : Value} {wr W' : World} (R : Bn w C into l mb k out v wr) (g : Below wr.heap.size wr W') : Bn w C into l mb k out v W' :=
  ⟨R.hk, R.mu.grow g, World.ownsRow.kept (row := none) R.own (grown_of_below g none) (by cases v.ownBlock <;> simp), (g.block _ (blk_lt R.bx)).trans R.bx, R.bel.trans (g.mono R.bel.size), R.hm⟩
theorem Bn.skip {w : World} {C : Cfg} {into : Int} {l : List Rch} {mb k : Nat} {out : List Lsa} {v : Value} {wr W' : World} (R : Bn w C into l mb k out v wr) (c : k < l.length) (h : bndB C.router into l[k] = false) (g : Below wr.heap.size wr W') : Bn w C into l mb (k + 1) out v W' := by
  have R' := R.grow g
  exact ⟨c, by rw [bndK_succ _ _ _ c, h]; exact R'.mu.mono (Nat.le_succ k), R'.own, R'.bx, R'.bel, R'.hm⟩
theorem Bn.take {w : World} {C : Cfg} {into : Int} {l : List Rch} {mb k : Nat} {out : List Lsa} {v : Value} {wr W' w4 : World} (R : Bn w C into l mb k out v wr) (c : k < l.length) (h : bndB C.router into l[k] = true) (g : Below wr.heap.size wr W')
    (m : UMap w4 mb (k + 1) (leastF (bndK C.router into l k) l[k].router l[k].cost)) (g4 : W'.grownBy w4 (some mb)) : Bn w C into l mb (k + 1) out v w4 := by
  have R' := R.grow g
  have hm := R.hm
  exact ⟨c, by rw [bndK_succ _ _ _ c, if_pos h]; exact m, World.ownsRow.kept R'.own g4 (.inr (own_ne_map R'.own R'.mu)), (g4.block _ (blk_lt R'.bx) (by simp; omega)).trans R'.bx, R'.bel.grown g4 R'.bel.size (fun j hj => by cases hj; omega), hm⟩

/-- the summaries: in order of their keys, and which they are -/
structure SuIs (C : Cfg) (lr : List Arg) (into : Int) (rs : List RtH) (l : List Rch) (L : List Lsa) : Prop where
  asc : L.Pairwise fun a b => kkCmp (lkOf a) (lkOf b) < 0
  mem : ∃ g, MinF (SumS lr into rs) g ∧ ∀ x, x ∈ L ↔ (∃ p c, pfxOk p ∧ g p = some c ∧ x = sumL C.router p c) ∨ ∃ r c, u32Ok r ∧ bndK C.router into l l.length r = some c ∧ x = bndL C.router r c

theorem sumL_key (router : Int) : ∀ p c q d, lkOf (sumL router p c) = lkOf (sumL router q d) → p = q := by
  intro p c q d h
  obtain ⟨pa, pl⟩ := p
  obtain ⟨qa, ql⟩ := q
  simp [lkOf, sumL] at h
  obtain ⟨rfl, rfl⟩ := h
  rfl
theorem bndL_key (router : Int) : ∀ p c q d, lkOf (bndL router p c) = lkOf (bndL router q d) → p = q := by
  intro p c q d h
  simpa [lkOf, bndL] using h
theorem kkCmp_zero {a b : Kk} (h1 : ¬ kkCmp a b < 0) (h2 : ¬ kkCmp b a < 0) : a = b := by
  rw [kk_neg] at h1 h2
  obtain ⟨a1, a2, a3, a4⟩ := a
  obtain ⟨b1, b2, b3, b4⟩ := b
  simp only [Kk.mk.injEq] at *
  omega

theorem asc_of_sorted {L L' : List Lsa} (P : L'.Perm L) (nd : (L.map lkOf).Nodup) (U : L'.Pairwise fun a b => 0 ≤ kkCmp (lkOf b) (lkOf a)) : L'.Pairwise fun a b => kkCmp (lkOf a) (lkOf b) < 0 := by
  have nd' : (L'.map lkOf).Nodup := (P.map lkOf).nodup_iff.2 nd
  refine ((List.pairwise_map.1 nd').and U).imp fun {a b} ⟨h1, h2⟩ => ?_
  rcases Decidable.em (kkCmp (lkOf a) (lkOf b) < 0) with h | h
  · exact h
  · exact absurd (kkCmp_zero h (by omega)) h1

end Go.Proofs.YtogdconliofblaaGreat
