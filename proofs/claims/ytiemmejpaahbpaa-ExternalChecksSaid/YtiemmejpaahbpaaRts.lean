/-
  external.Routes: what its loops carry.
-/
import Derived.Test.YtiemmejpaahbpaaTab
import Derived.Test.YtiemmejpaahbpaaSrr
namespace Go.Proofs.Ytiemmejpaahbpaa
open Go.RowKit

def LsasAt (w : World) (v : Value) (l : List Lsa) : Prop := SlV 15 w v (l.map lsaE)
theorem LsasAt.below {w w' : World} {v : Value} {l : List Lsa} (h : LsasAt w v l) (hb : Below w.heap.size w w') : LsasAt w' v l := SlV.below h hb

def LsaCells (w : World) (b o : Nat) (x : Lsa) : Prop :=
  (w.cell? ⟨b, o, none⟩ = some (.int .i64 x.typ) ∧ w.cell? ⟨b, o + 1, none⟩ = some (.int .u32 x.id) ∧ w.cell? ⟨b, o + 2, none⟩ = some (.int .i64 x.len) ∧ w.cell? ⟨b, o + 3, none⟩ = some (.int .u32 x.router) ∧ w.cell? ⟨b, o + 4, none⟩ = some (.int .i64 x.seq)) ∧
  (w.cell? ⟨b, o + 5, none⟩ = some (.int .i64 x.age) ∧ w.cell? ⟨b, o + 6, none⟩ = some (.int .i64 x.sum) ∧ w.cell? ⟨b, o + 7, none⟩ = some (.bool x.border) ∧ w.cell? ⟨b, o + 8, none⟩ = some (.bool x.boundary) ∧ w.cell? ⟨b, o + 9, none⟩ = some (.slice x.la x.ln x.lc)) ∧
  (w.cell? ⟨b, o + 10, none⟩ = some (.slice x.aa x.an x.ac) ∧ w.cell? ⟨b, o + 11, none⟩ = some (.int .i64 x.cost) ∧ w.cell? ⟨b, o + 12, none⟩ = some (.bool x.second) ∧ w.cell? ⟨b, o + 13, none⟩ = some (.int .u32 x.fwd) ∧ w.cell? ⟨b, o + 14, none⟩ = some (.int .i64 x.tag))

theorem LsaCells.below {w w' : World} {b o : Nat} {x : Lsa} (h : LsaCells w b o x) {B : Nat} (hb : Below B w w') (hlt : b < B) : LsaCells w' b o x := by
  have e := fun k => World.cell?_of_block (w := w) (w' := w') (a := ⟨b, k, none⟩) (hb.block b hlt)
  obtain ⟨⟨h0, h1, h2, h3, h4⟩, ⟨h5, h6, h7, h8, h9⟩, ⟨h10, h11, h12, h13, h14⟩⟩ := h
  exact ⟨⟨(e _).trans h0, (e _).trans h1, (e _).trans h2, (e _).trans h3, (e _).trans h4⟩, ⟨(e _).trans h5, (e _).trans h6, (e _).trans h7, (e _).trans h8, (e _).trans h9⟩, ⟨(e _).trans h10, (e _).trans h11, (e _).trans h12, (e _).trans h13, (e _).trans h14⟩⟩

theorem LsasAt.get {w : World} {v : Value} {l : List Lsa} (h : LsasAt w v l) : ∃ a cap, v = .slice a l.length cap ∧ l.length ≤ 9223372036854775807 ∧ (0 < l.length → ∃ b off, a = some ⟨b, off, none⟩ ∧ b < w.heap.size ∧ ∀ i (h : i < l.length), LsaCells w b (off + i * 15) l[i]) := by
  have hl := SlV.len h
  obtain ⟨a, cap, h0, h1, h2, hn, h3⟩ := h
  simp only [List.length_map] at h0 h1 h3 hl
  refine ⟨a, cap, h0, hl, fun hp => ?_⟩
  obtain ⟨b, off, e, h4, h5⟩ := h3 hp
  refine ⟨b, off, e, h4, fun i hi => ?_⟩
  have := h5 i (by simpa using hi)
  simp only [List.getElem_map, lsaE] at this
  exact ⟨⟨this 0 _ rfl, this 1 _ rfl, this 2 _ rfl, this 3 _ rfl, this 4 _ rfl⟩, ⟨this 5 _ rfl, this 6 _ rfl, this 7 _ rfl, this 8 _ rfl, this 9 _ rfl⟩, ⟨this 10 _ rfl, this 11 _ rfl, this 12 _ rfl, this 13 _ rfl, this 14 _ rfl⟩⟩

/-- what is asked of the arguments of Routes -/
structure RBd (db : List Lsa) (reach : List Rch) (inner : List RtH) (M : Nat) : Prop where
  okl : ∀ x ∈ db, OkL x
  len : ∀ x ∈ db, x.typ = 5 → 0 ≤ x.len ∧ x.len ≤ 32
  cost : ∀ x ∈ db, x.typ = 5 → 0 ≤ x.cost ∧ x.cost ≤ 4294967296
  okp : ∀ y ∈ inner, OkP y.rt.pfx
  hN : hopSum reach * 16 ≤ 140737488355328
  hI : ∀ x ∈ db, (lookR x.fwd inner).hops.length * 16 ≤ 140737488355328
  way : ∀ x ∈ db, 0 ≤ (offWay x reach inner).1 ∧ (offWay x reach inner).1 ≤ 1099511627776
  hop : ∀ x ∈ db, (offR x reach inner).hops.length ≤ M
  tot : (db.length * M) * 16 ≤ 140737488355328
  n : db.length * 88 ≤ 140737488355328

/-- the table after k advertisements -/
def tabK (router : Int) (reach : List Rch) (inner : List RtH) (db : List Lsa) (k : Nat) : Tab := (db.take k).foldl (tabStep router reach inner) (fun _ => none)

structure RtsRel (w : World) (router : Int) (reach : List Rch) (inner : List RtH) (db : List Lsa) (M k : Nat) (f : Ls.Pfx → Option RtH) (wr : World) : Prop where
  tab : TabAt wr w.heap.size k (tabK router reach inner db k) f
  bel : Below w.heap.size w wr
  lens : ∀ p x, f p = some x → x.hops.length ≤ k * M
  hk : k ≤ db.length
  okf : ∀ p x, f p = some x → pfxOk p

theorem tabK_succ (router : Int) (reach : List Rch) (inner : List RtH) (db : List Lsa) (k : Nat) (h : k < db.length) : tabK router reach inner db (k + 1) = tabStep router reach inner (tabK router reach inner db k) db[k] := by
  unfold tabK; rw [take_fold _ _ _ _ h]

theorem RtsRel.skip {w : World} {router : Int} {reach : List Rch} {inner : List RtH} {db : List Lsa} {M k : Nat} {f : Ls.Pfx → Option RtH} {wr wr' : World} (R : RtsRel w router reach inner db M k f wr) (c : k < db.length)
    (h : tabStep router reach inner (tabK router reach inner db k) db[k] = tabK router reach inner db k) (hb : Below wr.heap.size wr wr') : RtsRel w router reach inner db M (k + 1) f wr' := by
  refine ⟨?_, R.bel.trans (hb.mono R.bel.size), fun p x hp => ?_, c, R.okf⟩
  · rw [tabK_succ _ _ _ _ _ c, h]; exact (R.tab.grow hb).mono (Nat.le_succ _)
  · have := R.lens p x hp; rw [Nat.succ_mul]; omega

/-- a route is stored -/
theorem RtsRel.put {w : World} {router : Int} {reach : List Rch} {inner : List RtH} {db : List Lsa} {M k : Nat} {f : Ls.Pfx → Option RtH} {wr w1 w2 : World} (R : RtsRel w router reach inner db M k f wr) (c : k < db.length) (x : RtH) (hok : pfxOk x.rt.pfx)
    (h : tabStep router reach inner (tabK router reach inner db k) db[k] = upd (tabK router reach inner db k) x.pure.pfx x.pure) (hb : Below wr.heap.size wr w1) (hx : HopsAt w1 x.rt.hv x.hops) (hl : x.hops.length ≤ (k + 1) * M)
    (hm : MapF Try.prog 25 pfxOk pfxLit rtV w2 w.heap.size (k + 1) (upd f x.rt.pfx x)) (hg : w1.grownBy w2 (some w.heap.size)) : RtsRel w router reach inner db M (k + 1) (upd f x.rt.pfx x) w2 := by
  have hT := R.tab.grow hb
  have hB := R.bel.trans (hb.mono R.bel.size)
  refine ⟨?_, hB.grown hg hB.size (fun j hj => by cases hj; exact Nat.le_refl _), fun p y hp => ?_, c, fun p y hp => ?_⟩
  · rw [tabK_succ _ _ _ _ _ c, h]
    exact hT.put x hm hg hx
  · unfold upd at hp
    split at hp
    · cases hp; exact hl
    · have := R.lens p y hp; rw [Nat.succ_mul]; omega
  · unfold upd at hp
    split at hp
    · rename_i e; rw [e]; exact hok
    · exact R.okf p y hp

theorem keepI_range {x n : Int} (h : 0 ≤ x) : 0 ≤ keepI x n ∧ keepI x n ≤ x := by
  obtain ⟨y, rfl⟩ := Int.eq_ofNat_of_zero_le h
  unfold keepI
  have := Nat.mod_le y (2 ^ (32 - n).toNat)
  generalize 2 ^ (32 - n).toNat = m at *
  omega

theorem pfxOk_of {x : Lsa} (ok : OkL x) (h0 : 0 ≤ x.len) (h1 : x.len ≤ 32) : pfxOk (lsaPfx x) := by
  have h := keepI_range (n := x.len) ok.id0
  have := ok.id1
  exact ⟨WalkArith.wf_u32 (by simp only [lsaPfx]; omega), WalkArith.wf_i64 (by simp only [lsaPfx]; omega)⟩


/-- the nine cells of a block that holds a route -/
theorem blkRt {w : World} {b : Nat} {r : Rt} (h : w.heap[b]? = some (.cells (rtE r).toArray 28 (0, 0))) : RtCells w b 0 r ∧ ∀ i, w.frozen? ⟨b, i, none⟩ = false := by
  obtain ⟨⟨h0, h1, h2, h3, h4, h5, h6, h7, h8⟩, hf⟩ := blk9 h
  exact ⟨⟨h0, h1, h2, h3, h4, h5, h6, h7, h8⟩, hf⟩

end Go.Proofs.Ytiemmejpaahbpaa
