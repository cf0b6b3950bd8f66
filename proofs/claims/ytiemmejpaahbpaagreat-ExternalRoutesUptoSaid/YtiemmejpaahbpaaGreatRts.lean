/-
  external.Routes: what its loops carry.
-/
/-
  external.Routes: the second loop collects the table.
-/
import Derived.Test.YtiemmejpaahbpaaGreatTab
import Derived.Test.YtiemmejpaahbpaaGreatLkk
import Derived.Test.YtiemmejpaahbpaaGreatSrr
namespace Go.Proofs.YtiemmejpaahbpaaGreat
open Go.RowKit

/-- what is asked of the arguments of Routes -/
structure RBd (db : List Lsa) (reach : List Rch) (inner : List RtH) (M : Nat) : Prop where
  okl : ∀ x ∈ db, OkL x
  len : ∀ x ∈ db, x.typ = 5 → 0 ≤ x.len ∧ x.len ≤ 32
  cost : ∀ x ∈ db, x.typ = 5 → 0 ≤ x.cost ∧ x.cost ≤ 4294967296
  okp : ∀ y ∈ inner, OkP y.rt.pfx
  hN : hopSum reach * 16 ≤ 140737488355328
  hI : ∀ x ∈ db, (lookR x.fwd inner).hops.length * 16 ≤ 140737488355328
  way : ∀ x ∈ db, 0 ≤ (offWay x reach inner).1 ∧ (offWay x reach inner).1 ≤ 1099511627776
  hop : ∀ x ∈ db, (offR x reach inner).hops.length ≤ M
  tot : (db.length * M) * 16 ≤ 140737488355328
  n : db.length * 88 ≤ 140737488355328

/-- the table after k advertisements -/
def tabK (router : Int) (reach : List Rch) (inner : List RtH) (db : List Lsa) (k : Nat) : Tab := (db.take k).foldl (tabStep router reach inner) (fun _ => none)

structure RtsRel (w : World) (router : Int) (reach : List Rch) (inner : List RtH) (db : List Lsa) (M k : Nat) (f : Ls.Pfx → Option RtH) (wr : World) : Prop where
  tab : TabAt wr w.heap.size k (tabK router reach inner db k) f
  bel : Below w.heap.size w wr
  lens : ∀ p x, f p = some x → x.hops.length ≤ k * M
  hk : k ≤ db.length
  okf : ∀ p x, f p = some x → pfxOk p

theorem tabK_succ (router : Int) (reach : List Rch) (inner : List RtH) (db : List Lsa) (k : Nat) (h : k < db.length) : tabK router reach inner db (k + 1) = tabStep router reach inner (tabK router reach inner db k) db[k] := by
  unfold tabK; rw [take_fold _ _ _ _ h]

theorem RtsRel.skip {w : World} {router : Int} {reach : List Rch} {inner : List RtH} {db : List Lsa} {M k : Nat} {f : Ls.Pfx → Option RtH} {wr wr' : World} (R : RtsRel w router reach inner db M k f wr) (c : k < db.length)
    (h : tabStep router reach inner (tabK router reach inner db k) db[k] = tabK router reach inner db k) (hb : Below wr.heap.size wr wr') : RtsRel w router reach inner db M (k + 1) f wr' := by
  refine ⟨?_, R.bel.trans (hb.mono R.bel.size), fun p x hp => ?_, c, R.okf⟩
  · rw [tabK_succ _ _ _ _ _ c, h]; exact (R.tab.grow hb).mono (Nat.le_succ _)
  · have := R.lens p x hp; rw [Nat.succ_mul]; omega

/-- a route is stored -/
theorem RtsRel.put {w : World} {router : Int} {reach : List Rch} {inner : List RtH} {db : List Lsa} {M k : Nat} {f : Ls.Pfx → Option RtH} {wr w1 w2 : World} (R : RtsRel w router reach inner db M k f wr) (c : k < db.length) (x : RtH) (hok : pfxOk x.rt.pfx)
    (h : tabStep router reach inner (tabK router reach inner db k) db[k] = upd (tabK router reach inner db k) x.pure.pfx x.pure) (hb : Below wr.heap.size wr w1) (hx : HopsAt w1 x.rt.hv x.hops) (hl : x.hops.length ≤ (k + 1) * M)
    (hm : MapF Tryz.prog 33 pfxOk pfxLit rtV w2 w.heap.size (k + 1) (upd f x.rt.pfx x)) (hg : w1.grownBy w2 (some w.heap.size)) : RtsRel w router reach inner db M (k + 1) (upd f x.rt.pfx x) w2 := by
  have hT := R.tab.grow hb
  have hB := R.bel.trans (hb.mono R.bel.size)
  refine ⟨?_, hB.grown hg hB.size (fun j hj => by cases hj; exact Nat.le_refl _), fun p y hp => ?_, c, fun p y hp => ?_⟩
  · rw [tabK_succ _ _ _ _ _ c, h]
    exact hT.put x hm hg hx
  · unfold upd at hp
    split at hp
    · cases hp; exact hl
    · have := R.lens p y hp; rw [Nat.succ_mul]; omega
  · unfold upd at hp
    split at hp
    · rename_i e; rw [e]; exact hok
    · exact R.okf p y hp

theorem keepI_range {x n : Int} (h : 0 ≤ x) : 0 ≤ keepI x n ∧ keepI x n ≤ x := by
  obtain ⟨y, rfl⟩ := Int.eq_ofNat_of_zero_le h
  unfold keepI
  have := Nat.mod_le y (2 ^ (32 - n).toNat)
  generalize 2 ^ (32 - n).toNat = m at *
  omega

theorem pfxOk_of {x : Lsa} (ok : OkL x) (h0 : 0 ≤ x.len) (h1 : x.len ≤ 32) : pfxOk (lsaPfx x) := by
  have h := keepI_range (n := x.len) ok.id0
  have := ok.id1
  exact ⟨WalkArith.wf_u32 (by simp only [lsaPfx]; omega), WalkArith.wf_i64 (by simp only [lsaPfx]; omega)⟩


/-- the nine cells of a block that holds a route -/
theorem blkRt {w : World} {b : Nat} {r : Rt} (h : w.heap[b]? = some (.cells (rtE r).toArray 36 (0, 0))) : RtCells w b 0 r ∧ ∀ i, w.frozen? ⟨b, i, none⟩ = false := by
  obtain ⟨⟨h0, h1, h2, h3, h4, h5, h6, h7, h8⟩, hf⟩ := blk9 h
  exact ⟨⟨h0, h1, h2, h3, h4, h5, h6, h7, h8⟩, hf⟩

end Go.Proofs.YtiemmejpaahbpaaGreat

namespace Go.Proofs.YtiemmejpaahbpaaGreat
open Go.RowKit

abbrev RRange (wr : World) (mb rb n : Nat) (f : Ls.Pfx → Option RtH) (left : Ls.Pfx → Bool) (cnt : Nat) : Prop := RangeF Tryz.prog 33 pfxOk pfxLit rtV wr mb rb n f left cnt

/-- what the second loop carries; Wb: the world at its start -/
structure OutRel (Wb : World) (mb rb n : Nat) (f : Ls.Pfx → Option RtH) (left : Ls.Pfx → Bool) (cnt : Nat) (out : List RtH) (v : Value) (wr : World) : Prop where
  rng : RRange wr mb rb n f left cnt
  own : RtsOwn Wb.heap.size wr v (out.map RtH.rt)
  gr : Wb.grownBy wr (some rb)
  mem : ∀ x, x ∈ out ↔ ∃ p, pfxOk p ∧ left p = false ∧ f p = some x
  nd : (out.map fun x => x.rt.pfx).Nodup
  len : out.length + cnt ≤ n
  lo : rb < Wb.heap.size ∧ mb < Wb.heap.size

theorem rtE_len (l : List Rt) : ∀ c ∈ l.map rtE, c.length = 9 := by
  intro c hc
  obtain ⟨h, _, rfl⟩ := List.mem_map.1 hc
  rfl
theorem rtE_ones (l : List Rt) : ∀ c ∈ l.map rtE, ∀ u ∈ c, u.oneCell' = true := by
  intro c hc u hu
  obtain ⟨h, _, rfl⟩ := List.mem_map.1 hc
  exact rtE_one h u hu

theorem grown_of_below {w w' : World} (hb : Below w.heap.size w w') (row : Option Nat) : w.grownBy w' row := ⟨hb.os, hb.tape, hb.output, hb.size, fun k hk _ => hb.block k hk⟩

theorem OutRel.step {Wb : World} {mb rb n : Nat} {f : Ls.Pfx → Option RtH} {left : Ls.Pfx → Bool} {cnt cnt' : Nat} {out : List RtH} {v v' : Value} {wr w1 w3 w4 : World} (R : OutRel Wb mb rb n f left cnt out v wr) (hf : ∀ p x, f p = some x → x.rt.pfx = p)
    {p : Ls.Pfx} {x : RtH} (hp : pfxOk p) (hl : left p = true) (hx : f p = some x) (h1 : RRange w1 mb rb n f (fun z => left z && !decide (z = p)) cnt') (hc : cnt' < cnt) (hg1 : wr.grownBy w1 (some rb)) (hb : Below w1.heap.size w1 w3)
    (own' : w4.ownsRow Wb.heap.size 36 9 v' ((out.map RtH.rt).length + [rtE x.rt].length) (((out.map RtH.rt).map rtE).flatten ++ [rtE x.rt].flatten)) (hg4 : w3.grownBy w4 v.ownBlock) :
    OutRel Wb mb rb n f (fun z => left z && !decide (z = p)) cnt' (out ++ [x]) v' w4 := by
  have hown : ∀ j, v.ownBlock = some j → Wb.heap.size ≤ j := fun j hj => (R.own.lt j hj).1
  have lo := R.lo
  refine ⟨?_, ?_, ?_, fun y => ?_, ?_, ?_, lo⟩
  · exact (h1.grow hb).kept hg4 (fun e => by have := hown mb e.symm; omega) (fun e => by have := hown rb e.symm; omega)
  · unfold RtsOwn
    have e : ((out ++ [x]).map RtH.rt).length = (out.map RtH.rt).length + [rtE x.rt].length := by simp
    have e2 : (((out ++ [x]).map RtH.rt).map rtE).flatten = ((out.map RtH.rt).map rtE).flatten ++ [rtE x.rt].flatten := by simp
    rw [e, e2]; exact own'
  · have g1 : Wb.grownBy w1 (some rb) := R.gr.andThen hg1 (fun j hj => .inr hj.symm.symm)
    have g3 : Wb.grownBy w3 (some rb) := g1.andThen (grown_of_below hb none) (fun j hj => by cases hj)
    exact g3.andThen hg4 (fun j hj => .inl (hown j hj))
  · rw [List.mem_append, R.mem, List.mem_singleton]
    constructor
    · rintro (⟨q, hq, hlq, hfq⟩ | rfl)
      · exact ⟨q, hq, by simp [hlq], hfq⟩
      · exact ⟨p, hp, by simp, hx⟩
    · rintro ⟨q, hq, hlq, hfq⟩
      by_cases e : q = p
      · subst e; right; rw [hx] at hfq; cases hfq; rfl
      · left; exact ⟨q, hq, by simpa [e] using hlq, hfq⟩
  · rw [List.map_append, List.nodup_append]
    refine ⟨R.nd, by simp, fun a ha b hb' => ?_⟩
    obtain ⟨y, hy, rfl⟩ := List.mem_map.1 ha
    obtain ⟨q, hq, hlq, hfq⟩ := (R.mem y).1 hy
    simp only [List.map_cons, List.map_nil, List.mem_singleton] at hb'
    subst hb'
    rw [hf q y hfq, hf p x hx]
    rintro rfl
    rw [hl] at hlq; cases hlq
  · have := R.len; rw [List.length_append, List.length_singleton]; omega

theorem RRange.noCell {wr : World} {mb rb n : Nat} {f : Ls.Pfx → Option RtH} {left : Ls.Pfx → Bool} {cnt : Nat} (h : RRange wr mb rb n f left cnt) (o : Nat) (u : Value) : wr.cell? ⟨rb, o, none⟩ ≠ some u := by
  obtain ⟨D, lf, ⟨es, clock, since, seen, c0, _, _, _, _, hr, _⟩, _⟩ := h
  simp [World.cell?, hr]

theorem OutRel.start {w0 : World} {mb rb n cnt : Nat} {f : Ls.Pfx → Option RtH} (hrg : RRange w0 mb rb n f (fun x => (f x).isSome) cnt) (hc : cnt ≤ n) : OutRel w0 mb rb n f (fun x => (f x).isSome) cnt [] (.slice none 0 0) w0 := by
  refine ⟨hrg, World.ownsRow_nil _ _ _ _, ⟨rfl, rfl, rfl, Nat.le_refl _, fun _ _ _ => rfl⟩, fun x => ⟨fun h => by simp at h, fun ⟨p, _, h1, h2⟩ => by rw [h2] at h1; cases h1⟩, by simp, by simpa using hc, hrg.lt⟩

def RtsPost (w : World) (g : Tab) (e : Ending) (w' : World) : Prop :=
  ∃ v l, e = .returned v ∧ RoutesAt w' v l ∧ Below w.heap.size w w' ∧ ((l.map RtH.pure).Pairwise fun a b => Ls.pfxLt a.pfx b.pfx = true) ∧ ∀ r, r ∈ l.map RtH.pure ↔ g r.pfx = some r

theorem tabAdd_pfx (g : Tab) (r : Rp) (h : ∀ p x, g p = some x → x.pfx = p) : ∀ p x, tabAdd g r p = some x → x.pfx = p := by
  intro p x hx
  unfold tabAdd at hx
  have up : ∀ y : Rp, y.pfx = r.pfx → upd g r.pfx y p = some x → x.pfx = p := by
    intro y hy hx
    unfold upd at hx
    split at hx
    · cases hx; rename_i e; rw [hy, e]
    · exact h p x hx
  cases ho : g r.pfx with
  | none => rw [ho] at hx; exact up r rfl hx
  | some old =>
    rw [ho] at hx
    simp only at hx
    split at hx
    · exact up r rfl hx
    · split at hx
      · exact up { old with hops := Ls.merge Ls.hopLt old.hops r.hops } (h _ old ho) hx
      · exact h p x hx

theorem tabOf_pfx (router : Int) (reach : List Rch) (inner : List RtH) (db : List Lsa) : ∀ p x, tabOf router reach inner db p = some x → x.pfx = p := by
  unfold tabOf
  have key : ∀ (l : List Lsa) (g : Tab), (∀ p x, g p = some x → x.pfx = p) → ∀ p x, l.foldl (tabStep router reach inner) g p = some x → x.pfx = p := by
    intro l
    induction l with
    | nil => intro g h; exact h
    | cons y l ih =>
      intro g h
      rw [List.foldl_cons]
      refine ih _ ?_
      unfold tabStep
      split
      · exact tabAdd_pfx g _ h
      · exact h
  exact key db _ (fun p x h => by cases h)

/-- behind the sort -/
theorem OutRel.post {w Wb : World} {mb rb n : Nat} {f : Ls.Pfx → Option RtH} {g : Tab} {left : Ls.Pfx → Bool} {cnt : Nat} {out : List RtH} {v : Value} {wr w' : World} {l' : List Rt} (R : OutRel Wb mb rb n f left cnt out v wr) (hf : ∀ p x, f p = some x → x.rt.pfx = p) (hok : ∀ p x, f p = some x → pfxOk p)
    (hl : ∀ p, pfxOk p → left p = false) (hg : ∀ p, (f p).map RtH.pure = g p) (hh : ∀ p x, f p = some x → HopsAt Wb x.rt.hv x.hops) (hi : ∀ o u, Wb.cell? ⟨rb, o, none⟩ ≠ some u) (hw : Below w.heap.size w Wb) (hrb : w.heap.size ≤ rb)
    (P : l'.Perm (out.map RtH.rt)) (U : l'.Pairwise fun a b => Ls.pfxLt b.pfx a.pfx = false) (O : RtsOwn Wb.heap.size w' v l') (B : Below Wb.heap.size wr w') : RtsPost w g (.returned v) w' := by
  have hfx : ∀ r ∈ l', ∃ x, f r.pfx = some x ∧ x.rt = r ∧ x ∈ out := by
    intro r hr
    obtain ⟨x, hx, rfl⟩ := List.mem_map.1 (P.mem_iff.1 hr)
    obtain ⟨p, _, _, hp⟩ := (R.mem x).1 hx
    exact ⟨x, by rw [hf p x hp]; exact hp, rfl, hx⟩
  have G6 : Wb.grownBy w' (some rb) := ⟨B.os.trans R.gr.os, B.tape.trans R.gr.tape, B.output.trans R.gr.output, Nat.le_trans R.gr.size B.size, fun i hi hne => (B.block i hi).trans (R.gr.block i hi hne)⟩
  have hmapl : (l'.map fun r => (f r.pfx).getD default).map RtH.rt = l' := by
    rw [List.map_map]
    conv => rhs; rw [← List.map_id l']
    refine List.map_congr_left fun r hr => ?_
    obtain ⟨x, h1, h2, _⟩ := hfx r hr
    show ((f r.pfx).getD default).rt = r
    rw [h1]; exact h2
  have hpx : ∀ x : RtH, x.pure.pfx = x.rt.pfx := fun _ => rfl
  refine ⟨v, l'.map fun r => (f r.pfx).getD default, rfl, ⟨?_, fun x hx => ?_⟩, ?_, ?_, fun r => ?_⟩
  · have e : (l'.map fun r => (f r.pfx).getD default).map (fun x => rtE x.rt) = l'.map rtE := by
      conv => rhs; rw [← hmapl]
      rw [List.map_map, List.map_map, List.map_map]; rfl
    rw [e]
    exact SlV.of_own (rtE_len l') (by simpa [RtsOwn] using O)
  · obtain ⟨r, hr, rfl⟩ := List.mem_map.1 hx
    obtain ⟨x, h1, h2, _⟩ := hfx r hr
    rw [h1]
    exact (hh _ x h1).grown hi G6
  · exact hw.grown G6 hw.size (fun j hj => by cases hj; exact hrb)
  · rw [List.pairwise_map, List.pairwise_map]
    have nd : (l'.map Rt.pfx).Nodup := by
      have p2 := P.map Rt.pfx
      rw [List.map_map] at p2
      exact (p2.nodup_iff).2 R.nd
    have := (List.pairwise_map.1 nd).and U
    refine List.Pairwise.imp_of_mem ?_ this
    intro a b ha hb ⟨h1, h2⟩
    obtain ⟨x, hx1, hx2, _⟩ := hfx a ha
    obtain ⟨y, hy1, hy2, _⟩ := hfx b hb
    rw [hx1, hy1]
    show Ls.pfxLt x.rt.pfx y.rt.pfx = true
    rw [hx2, hy2]
    cases c : Ls.pfxLt a.pfx b.pfx with
    | true => rfl
    | false => exact absurd (Ls.pfxLin.tot _ _ c h2) h1
  · constructor
    · intro hr
      obtain ⟨y, hy, rfl⟩ := List.mem_map.1 hr
      obtain ⟨q, hq, rfl⟩ := List.mem_map.1 hy
      obtain ⟨x, hx1, hx2, _⟩ := hfx q hq
      rw [hx1]
      show g x.rt.pfx = some x.pure
      rw [← hg, hx2, hx1]; rfl
    · intro hr
      rw [← hg] at hr
      obtain ⟨x, hx, rfl⟩ := Option.map_eq_some_iff.1 hr
      have hp := hok _ x hx
      have hm : x ∈ out := (R.mem x).2 ⟨_, hp, hl _ hp, hx⟩
      have hml : x.rt ∈ l' := P.mem_iff.2 (List.mem_map.2 ⟨x, hm, rfl⟩)
      refine List.mem_map.2 ⟨x, List.mem_map.2 ⟨x.rt, hml, ?_⟩, rfl⟩
      show (f x.rt.pfx).getD default = x
      have e : x.pure.pfx = x.rt.pfx := rfl
      rw [e] at hx
      rw [hx]; rfl

end Go.Proofs.YtiemmejpaahbpaaGreat
