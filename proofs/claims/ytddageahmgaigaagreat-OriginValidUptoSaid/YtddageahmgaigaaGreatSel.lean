import Derived.Test.YtddageahmgaigaaGreatFle
import Derived.Deep.DeepCutAuto
namespace Go.Proofs.YtddageahmgaigaaGreat
open Go.RowKit

theorem BytesAt.drop2 {w : World} {g cap : Nat} {l : List Int} (h : BytesAt w (.slice (some ⟨g, 0, none⟩) l.length cap) l) (h2 : 2 < l.length) : BytesAt w (.slice (some ⟨g, 2, none⟩) (l.length - 2) (cap - 2)) (l.drop 2) := by
  obtain ⟨a, c, e, h1, h3, -, h5⟩ := h.get
  cases e
  obtain ⟨b, off, e, hb, hc⟩ := h5 (by omega)
  cases e
  refine ⟨_, cap - 2, by simp, by simp; omega, by unfold maxLen at *; omega, (fun h => by cases h), fun _ => ⟨g, 2, rfl, hb, fun i hi j u hu => ?_⟩⟩
  have hi' : i + 2 < l.length := by simp at hi; omega
  have := hc (i + 2) hi'
  simp only [List.getElem_map, byE, List.getElem_drop] at hu
  cases j with
  | zero =>
    simp at hu
    rw [← hu, show 2 + i * 1 + 0 = 0 + (i + 2) from by omega, this]
    simp [Nat.add_comm]
  | succ j => simp at hu

def SumPost (w : World) (e : Ending) (w' : World) : Prop := ∃ n : Int, e = .returned (.int .i64 n) ∧ Below w.heap.size w w'

def setLsa (W : World) (bb : Nat) (x : Lsa) : World := (((((((((((((((W.setCell ⟨bb, 0, none⟩ (.int .i64 x.typ)).setCell ⟨bb, 1, none⟩ (.int .u32 x.id)).setCell ⟨bb, 2, none⟩ (.int .i64 x.len)).setCell ⟨bb, 3, none⟩ (.int .u32 x.router)).setCell ⟨bb, 4, none⟩ (.int .i64 x.seq)).setCell ⟨bb, 5, none⟩ (.int .i64 x.age)).setCell ⟨bb, 6, none⟩ (.int .i64 x.sum)).setCell ⟨bb, 7, none⟩ (.bool x.border)).setCell ⟨bb, 8, none⟩ (.bool x.boundary)).setCell ⟨bb, 9, none⟩ (.slice x.la x.ln x.lc)).setCell ⟨bb, 10, none⟩ (.slice x.aa x.an x.ac)).setCell ⟨bb, 11, none⟩ (.int .i64 x.cost)).setCell ⟨bb, 12, none⟩ (.bool x.second)).setCell ⟨bb, 13, none⟩ (.int .u32 x.fwd)).setCell ⟨bb, 14, none⟩ (.int .i64 x.tag))
theorem setLsa_blk {W : World} {bb : Nat} {c0 c1 c2 c3 c4 c5 c6 c7 c8 c9 c10 c11 c12 c13 c14 : Value} (h : W.heap[bb]? = some (.cells #[c0, c1, c2, c3, c4, c5, c6, c7, c8, c9, c10, c11, c12, c13, c14] 42 (0, 0))) (x : Lsa) : (setLsa W bb x).heap[bb]? = some (.cells (lsaE x).toArray 42 (0, 0)) := by
  have h1 := (blk_set (blk_set (blk_set (blk_set (blk_set (blk_set (blk_set (blk_set (blk_set (blk_set (blk_set (blk_set (blk_set (blk_set (blk_set h 0 (.int .i64 x.typ)) 1 (.int .u32 x.id)) 2 (.int .i64 x.len)) 3 (.int .u32 x.router)) 4 (.int .i64 x.seq)) 5 (.int .i64 x.age)) 6 (.int .i64 x.sum)) 7 (.bool x.border)) 8 (.bool x.boundary)) 9 (.slice x.la x.ln x.lc)) 10 (.slice x.aa x.an x.ac)) 11 (.int .i64 x.cost)) 12 (.bool x.second)) 13 (.int .u32 x.fwd)) 14 (.int .i64 x.tag))
  simp only [List.setIfInBounds_toArray, List.set_cons_zero, List.set_cons_succ] at h1
  exact h1
theorem setLsa_below {B : Nat} {w W : World} {bb : Nat} (h : Below B w W) (hb : B ≤ bb) (x : Lsa) : Below B w (setLsa W bb x) := (((((((((((((((h.setCell hb _).setCell hb _).setCell hb _).setCell hb _).setCell hb _).setCell hb _).setCell hb _).setCell hb _).setCell hb _).setCell hb _).setCell hb _).setCell hb _).setCell hb _).setCell hb _).setCell hb _)

end Go.Proofs.YtddageahmgaigaaGreat

namespace Go.Proofs.YtddageahmgaigaaGreat
open Go.RowKit

theorem Tryz.infoLink : (Tryz.prog.info? 82).map (fun i => (i.zero, i.size, i.bytes)) = some (some (.agg #[.int .i64 0, .int .u32 0, .int .u32 0, .int .i64 0]), 4, 24) := by kernel_rfl
theorem Tryz.infoU32 : (Tryz.prog.info? 22).map (fun i => (i.zero, i.size, i.bytes)) = some (some (.int .u32 0), 1, 4) := by kernel_rfl

theorem made_zero (W : World) (e : TypeId) (k : Nat) : (W.alloc (.cells #[] e)).ownsRow W.heap.size e k (.slice (some ⟨W.heap.size, 0, none⟩) 0 0) 0 [] :=
  World.ownsRow_made W #[] 0 (Nat.le_refl _) (by unfold maxLen; omega) (by simp)

structure NoLists (w : World) (x : Lsa) : Prop where
  l : SlV 4 w (.slice x.la x.ln x.lc) []
  a : SlV 1 w (.slice x.aa x.an x.ac) []

theorem NoLists.below {w w' : World} {x : Lsa} (h : NoLists w x) (hb : Below w.heap.size w w') : NoLists w' x := ⟨h.l.below hb, h.a.below hb⟩

def CopyPost (w : World) (x : Lsa) (e : Ending) (w' : World) : Prop := ∃ la lc aa ac, e = .returned (.agg (lsaE { x with la := la, ln := 0, lc := lc, aa := aa, an := 0, ac := ac }).toArray) ∧ Below w.heap.size w w'

end Go.Proofs.YtddageahmgaigaaGreat

namespace Go.Proofs.YtddageahmgaigaaGreat
open Go.RowKit

def SealPost (w : World) (x : Lsa) (e : Ending) (w' : World) : Prop := ∃ s la lc aa ac, e = .returned (.tuple #[.agg (lsaE { x with sum := s, la := la, ln := 0, lc := lc, aa := aa, an := 0, ac := ac }).toArray, .int .i64 0]) ∧ Below w.heap.size w w'

end Go.Proofs.YtddageahmgaigaaGreat
