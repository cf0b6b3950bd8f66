/-
  Rows of advertisements in memory; the key of an advertisement.
-/
import Derived.Test.YtogdconliofblaaGreatKys
import Derived.Test.YtogdconliofblaaGreatLsa
namespace Go.Proofs.YtogdconliofblaaGreat
open Go.RowKit

def lkOf (x : Lsa) : Kk := ⟨x.typ, x.id, x.len, x.router⟩

def LsasAt (w : World) (v : Value) (l : List Lsa) : Prop := SlV 15 w v (l.map lsaE)
theorem LsasAt.below {w w' : World} {v : Value} {l : List Lsa} (h : LsasAt w v l) (hb : Below w.heap.size w w') : LsasAt w' v l := SlV.below h hb

def LsaCells (w : World) (b o : Nat) (x : Lsa) : Prop :=
  (w.cell? ⟨b, o, none⟩ = some (.int .i64 x.typ) ∧ w.cell? ⟨b, o + 1, none⟩ = some (.int .u32 x.id) ∧ w.cell? ⟨b, o + 2, none⟩ = some (.int .i64 x.len) ∧ w.cell? ⟨b, o + 3, none⟩ = some (.int .u32 x.router) ∧ w.cell? ⟨b, o + 4, none⟩ = some (.int .i64 x.seq)) ∧
  (w.cell? ⟨b, o + 5, none⟩ = some (.int .i64 x.age) ∧ w.cell? ⟨b, o + 6, none⟩ = some (.int .i64 x.sum) ∧ w.cell? ⟨b, o + 7, none⟩ = some (.bool x.border) ∧ w.cell? ⟨b, o + 8, none⟩ = some (.bool x.boundary) ∧ w.cell? ⟨b, o + 9, none⟩ = some (.slice x.la x.ln x.lc)) ∧
  (w.cell? ⟨b, o + 10, none⟩ = some (.slice x.aa x.an x.ac) ∧ w.cell? ⟨b, o + 11, none⟩ = some (.int .i64 x.cost) ∧ w.cell? ⟨b, o + 12, none⟩ = some (.bool x.second) ∧ w.cell? ⟨b, o + 13, none⟩ = some (.int .u32 x.fwd) ∧ w.cell? ⟨b, o + 14, none⟩ = some (.int .i64 x.tag))

theorem LsaCells.below {w w' : World} {b o : Nat} {x : Lsa} (h : LsaCells w b o x) {B : Nat} (hb : Below B w w') (hlt : b < B) : LsaCells w' b o x := by
  have e := fun k => World.cell?_of_block (w := w) (w' := w') (a := ⟨b, k, none⟩) (hb.block b hlt)
  obtain ⟨⟨h0, h1, h2, h3, h4⟩, ⟨h5, h6, h7, h8, h9⟩, ⟨h10, h11, h12, h13, h14⟩⟩ := h
  exact ⟨⟨(e _).trans h0, (e _).trans h1, (e _).trans h2, (e _).trans h3, (e _).trans h4⟩, ⟨(e _).trans h5, (e _).trans h6, (e _).trans h7, (e _).trans h8, (e _).trans h9⟩, ⟨(e _).trans h10, (e _).trans h11, (e _).trans h12, (e _).trans h13, (e _).trans h14⟩⟩

theorem LsasAt.get {w : World} {v : Value} {l : List Lsa} (h : LsasAt w v l) : ∃ a cap, v = .slice a l.length cap ∧ l.length ≤ 9223372036854775807 ∧ (0 < l.length → ∃ b off, a = some ⟨b, off, none⟩ ∧ b < w.heap.size ∧ ∀ i (h : i < l.length), LsaCells w b (off + i * 15) l[i]) := by
  have hl := SlV.len h
  obtain ⟨a, cap, h0, h1, h2, hn, h3⟩ := h
  simp only [List.length_map] at h0 h1 h3 hl
  refine ⟨a, cap, h0, hl, fun hp => ?_⟩
  obtain ⟨b, off, e, h4, h5⟩ := h3 hp
  refine ⟨b, off, e, h4, fun i hi => ?_⟩
  have := h5 i (by simpa using hi)
  simp only [List.getElem_map, lsaE] at this
  exact ⟨⟨this 0 _ rfl, this 1 _ rfl, this 2 _ rfl, this 3 _ rfl, this 4 _ rfl⟩, ⟨this 5 _ rfl, this 6 _ rfl, this 7 _ rfl, this 8 _ rfl, this 9 _ rfl⟩, ⟨this 10 _ rfl, this 11 _ rfl, this 12 _ rfl, this 13 _ rfl, this 14 _ rfl⟩⟩

end Go.Proofs.YtogdconliofblaaGreat
