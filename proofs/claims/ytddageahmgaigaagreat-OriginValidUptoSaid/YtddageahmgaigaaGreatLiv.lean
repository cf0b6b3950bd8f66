import Derived.Test.YtddageahmgaigaaGreatRtp
import Derived.Test.YtddageahmgaigaaGreatRtw
import Derived.Test.YtddageahmgaigaaGreatLks
import Derived.Test.YtddageahmgaigaaGreatNfa
import Derived.Test.YtddageahmgaigaaGreatNfd
import Derived.Test.YtddageahmgaigaaGreatRsl
import Derived.Test.YtddageahmgaigaaGreatLcl
namespace Go.Proofs.YtddageahmgaigaaGreat
open Go.RowKit

def exNb : Nb := ⟨2, 167772162, 0, 0, 0, 6, 0, false, 0, ⟨none, 0, 0⟩, ⟨none, 0, 0⟩, false, ⟨none, 0, 0⟩, ⟨none, 0, 0⟩, 0⟩
def exIf (b : Nat) : Ifc := ⟨1, 167772160, 30, 167772161, 0, 5, 0, 10, 40, true, 0, 0, 0, 0, some ⟨b, 0, none⟩, 1, 1⟩
def exSt (b : Nat) : Stt := ⟨1, ⟨none, 0, 0⟩, ⟨none, 0, 0⟩, 0, some ⟨b, 0, none⟩, 1, 1, ⟨none, 0, 0⟩, ⟨none, 0, 0⟩, ⟨none, 0, 0⟩⟩
def SmpPost (w : World) (e : Ending) (w' : World) : Prop := ∃ b c, e = .returned (.agg (sttE (exSt b)).toArray) ∧ IfsAt w' (.slice (some ⟨b, 0, none⟩) 1 1) [⟨exIf c, [exNb]⟩] ∧ Below w.heap.size w w'

theorem hds_none (w : World) : HdsAt w (.slice none 0 0) := ⟨[], ⟨none, 0, rfl, Nat.le_refl _, by unfold maxLen; omega, fun _ => rfl, fun h => absurd h (by simp)⟩, (fun c hc => by cases hc), (fun c hc => by cases hc)⟩

theorem sl_blk {w : World} {b : Nat} {vals : List Value} {t : TypeId} (h : w.heap[b]? = some (.cells vals.toArray t (0, 0))) : SlV vals.length w (.slice (some ⟨b, 0, none⟩) 1 1) [vals] := by
  refine ⟨_, 1, rfl, Nat.le_refl _, by unfold maxLen; simp, (fun h => by cases h), fun _ => ⟨b, 0, rfl, blk_lt h, fun i hi j u hu => ?_⟩⟩
  have : i = 0 := by simp at hi; omega
  subst this
  refine blk_cell h ?_
  rw [List.getElem_cons_zero] at hu
  simpa using hu

set_option maxHeartbeats 8000000 in
set_option maxRecDepth 100000 in
theorem sample_calls (w : World) : Calls Tryz.prog 36 #[] w (SmpPost w) := by
  go_enter Tryz.func36, Tryz.ntmps36
  go_upto_region 1 with fail
  generalize hA : w.alloc _ = WA
  have bA : Hid (WA.heap[w.heap.size]? = some (.cells #[.int .u32 0, .slice none 0 0, .slice none 0 0, .int .i64 0, .slice none 0 0, .slice none 0 0, .slice none 0 0, .slice none 0 0] 32 (0, 0))) := Lib.hid (by rw [← hA]; exact alloc_new _ _)
  have BA : Hid (Below w.heap.size w WA) := Lib.hid (by rw [← hA]; exact (Below.refl _ _).alloc (Nat.le_refl _) _)
  clear hA
  go_upto_region 2 with fail
  generalize hB : WA.alloc _ = WB
  have bB : Hid (WB.heap[WA.heap.size]? = some (.cells #[.int .i64 1, .int .u32 167772160, .int .i64 30, .int .u32 167772161, .int .u32 0, .int .i64 5, .int .i64 0, .int .i64 10, .int .i64 40, .bool true, .int .u32 0, .int .u32 0, .int .i64 0, .int .i64 0, .slice none 0 0] 69 (0, 0))) := Lib.hid (by rw [← hB]; exact alloc_new _ _)
  have bAB : Hid (WB.heap[w.heap.size]? = some (.cells #[.int .u32 0, .slice none 0 0, .slice none 0 0, .int .i64 0, .slice none 0 0, .slice none 0 0, .slice none 0 0, .slice none 0 0] 32 (0, 0))) := Lib.hid (by rw [← hB]; exact (alloc_get _ _ _ (blk_lt bA.out)).trans bA.out)
  have BB : Hid (Below w.heap.size w WB) := Lib.hid (by rw [← hB]; exact BA.out.alloc BA.out.size _)
  have LA := Lib.hid (blk_lt bA.out)
  clear hB BA bA
  obtain ⟨WC, hWC⟩ : ∃ WC, WB.alloc (.cells #[.int .u32 2, .int .u32 167772162, .int .i64 0, .int .u32 0, .int .u32 0, .int .i64 6, .int .i64 0, .bool false, .int .i64 0, .slice none 0 0, .slice none 0 0, .bool false, .slice none 0 0, .slice none 0 0, .int .i64 0] 72) = WC := ⟨_, rfl⟩
  have bC : Hid (WC.heap[WB.heap.size]? = some (.cells #[.int .u32 2, .int .u32 167772162, .int .i64 0, .int .u32 0, .int .u32 0, .int .i64 6, .int .i64 0, .bool false, .int .i64 0, .slice none 0 0, .slice none 0 0, .bool false, .slice none 0 0, .slice none 0 0, .int .i64 0] 72 (0, 0))) := Lib.hid (by rw [← hWC]; exact alloc_new _ _)
  have bBC : Hid (WC.heap[WA.heap.size]? = some (.cells #[.int .i64 1, .int .u32 167772160, .int .i64 30, .int .u32 167772161, .int .u32 0, .int .i64 5, .int .i64 0, .int .i64 10, .int .i64 40, .bool true, .int .u32 0, .int .u32 0, .int .i64 0, .int .i64 0, .slice none 0 0] 69 (0, 0))) := Lib.hid (by rw [← hWC]; exact (alloc_get _ _ _ (blk_lt bB.out)).trans bB.out)
  have bAC : Hid (WC.heap[w.heap.size]? = some (.cells #[.int .u32 0, .slice none 0 0, .slice none 0 0, .int .i64 0, .slice none 0 0, .slice none 0 0, .slice none 0 0, .slice none 0 0] 32 (0, 0))) := Lib.hid (by rw [← hWC]; exact (alloc_get _ _ _ (blk_lt bAB.out)).trans bAB.out)
  have BC : Hid (Below w.heap.size w WC) := Lib.hid (by rw [← hWC]; exact BB.out.alloc BB.out.size _)
  have LB := Lib.hid (blk_lt bB.out)
  obtain ⟨WD, hWD⟩ : ∃ WD, WC.setCell ⟨WA.heap.size, 14, none⟩ (.slice (some ⟨WB.heap.size, 0, none⟩) 1 1) = WD := ⟨_, rfl⟩
  have gD : WC.grownBy WD (some WA.heap.size) := by rw [← hWD]; exact grown_set WC WA.heap.size 14 _
  have bD : Hid (WD.heap[WA.heap.size]? = some (.cells #[.int .i64 1, .int .u32 167772160, .int .i64 30, .int .u32 167772161, .int .u32 0, .int .i64 5, .int .i64 0, .int .i64 10, .int .i64 40, .bool true, .int .u32 0, .int .u32 0, .int .i64 0, .int .i64 0, .slice (some ⟨WB.heap.size, 0, none⟩) 1 1] 69 (0, 0))) := Lib.hid (by
    rw [← hWD]
    have h1 := blk_set bBC.out 14 (.slice (some ⟨WB.heap.size, 0, none⟩) 1 1)
    simp only [List.setIfInBounds_toArray, List.set_cons_zero, List.set_cons_succ] at h1
    exact h1)
  have bCD : Hid (WD.heap[WB.heap.size]? = some (.cells #[.int .u32 2, .int .u32 167772162, .int .i64 0, .int .u32 0, .int .u32 0, .int .i64 6, .int .i64 0, .bool false, .int .i64 0, .slice none 0 0, .slice none 0 0, .bool false, .slice none 0 0, .slice none 0 0, .int .i64 0] 72 (0, 0))) := Lib.hid ((gD.block _ (blk_lt bC.out) (by have := LB.out; simp; omega)).trans bC.out)
  have bAD : Hid (WD.heap[w.heap.size]? = some (.cells #[.int .u32 0, .slice none 0 0, .slice none 0 0, .int .i64 0, .slice none 0 0, .slice none 0 0, .slice none 0 0, .slice none 0 0] 32 (0, 0))) := Lib.hid ((gD.block _ (blk_lt bAC.out) (by have := LA.out; simp; omega)).trans bAC.out)
  have BD : Hid (Below w.heap.size w WD) := Lib.hid (BC.out.grown gD BC.out.size (fun j hj => by cases hj; have := LA.out; omega))
  have k14 : WC.cell? ⟨WA.heap.size, 14, none⟩ = some (.slice none 0 0) := blk_cell bBC.out rfl
  have kf14 := blk_free bBC.out 14
  have HWC := Lib.hid hWC
  have HWD := Lib.hid hWD
  clear hWC hWD gD BB bB bAB BC bBC bAC bC
  go_upto_region 3 with (rw [HWC.out])
  rw [HWD.out]
  clear HWC HWD k14 kf14
  obtain ⟨⟨⟨d0, d1, d2, d3, d4⟩, ⟨d5, d6, d7, d8, d9⟩, ⟨d10, d11, d12, d13, d14⟩⟩, -⟩ := blk15 bD.out
  obtain ⟨WE, hWE⟩ : ∃ WE, WD.alloc (.cells #[.int .i64 1, .int .u32 167772160, .int .i64 30, .int .u32 167772161, .int .u32 0, .int .i64 5, .int .i64 0, .int .i64 10, .int .i64 40, .bool true, .int .u32 0, .int .u32 0, .int .i64 0, .int .i64 0, .slice (some ⟨WB.heap.size, 0, none⟩) 1 1] 69) = WE := ⟨_, rfl⟩
  have bE : Hid (WE.heap[WD.heap.size]? = some (.cells #[.int .i64 1, .int .u32 167772160, .int .i64 30, .int .u32 167772161, .int .u32 0, .int .i64 5, .int .i64 0, .int .i64 10, .int .i64 40, .bool true, .int .u32 0, .int .u32 0, .int .i64 0, .int .i64 0, .slice (some ⟨WB.heap.size, 0, none⟩) 1 1] 69 (0, 0))) := Lib.hid (by rw [← hWE]; exact alloc_new _ _)
  have bCE : Hid (WE.heap[WB.heap.size]? = some (.cells #[.int .u32 2, .int .u32 167772162, .int .i64 0, .int .u32 0, .int .u32 0, .int .i64 6, .int .i64 0, .bool false, .int .i64 0, .slice none 0 0, .slice none 0 0, .bool false, .slice none 0 0, .slice none 0 0, .int .i64 0] 72 (0, 0))) := Lib.hid (by rw [← hWE]; exact (alloc_get _ _ _ (blk_lt bCD.out)).trans bCD.out)
  have bAE : Hid (WE.heap[w.heap.size]? = some (.cells #[.int .u32 0, .slice none 0 0, .slice none 0 0, .int .i64 0, .slice none 0 0, .slice none 0 0, .slice none 0 0, .slice none 0 0] 32 (0, 0))) := Lib.hid (by rw [← hWE]; exact (alloc_get _ _ _ (blk_lt bAD.out)).trans bAD.out)
  have BE : Hid (Below w.heap.size w WE) := Lib.hid (by rw [← hWE]; exact BD.out.alloc BD.out.size _)
  have LD := Lib.hid (blk_lt bAD.out)
  have LCD := Lib.hid (blk_lt bCD.out)
  obtain ⟨WF, hWF⟩ : ∃ WF, ((((((((WE).setCell ⟨w.heap.size, 0, none⟩ (.int .u32 1)).setCell ⟨w.heap.size, 1, none⟩ (.slice none 0 0)).setCell ⟨w.heap.size, 2, none⟩ (.slice none 0 0)).setCell ⟨w.heap.size, 3, none⟩ (.int .i64 0)).setCell ⟨w.heap.size, 4, none⟩ (.slice (some ⟨WD.heap.size, 0, none⟩) 1 1)).setCell ⟨w.heap.size, 5, none⟩ (.slice none 0 0)).setCell ⟨w.heap.size, 6, none⟩ (.slice none 0 0)).setCell ⟨w.heap.size, 7, none⟩ (.slice none 0 0) = WF := ⟨_, rfl⟩
  have gF : WE.grownBy WF (some w.heap.size) := by
    rw [← hWF]
    exact grown_grown (grown_grown (grown_grown (grown_grown (grown_grown (grown_grown (grown_grown (grown_grown (⟨rfl, rfl, rfl, Nat.le_refl _, fun _ _ _ => rfl⟩) (grown_set (WE) w.heap.size 0 (.int .u32 1))) (grown_set ((WE).setCell ⟨w.heap.size, 0, none⟩ (.int .u32 1)) w.heap.size 1 (.slice none 0 0))) (grown_set (((WE).setCell ⟨w.heap.size, 0, none⟩ (.int .u32 1)).setCell ⟨w.heap.size, 1, none⟩ (.slice none 0 0)) w.heap.size 2 (.slice none 0 0))) (grown_set ((((WE).setCell ⟨w.heap.size, 0, none⟩ (.int .u32 1)).setCell ⟨w.heap.size, 1, none⟩ (.slice none 0 0)).setCell ⟨w.heap.size, 2, none⟩ (.slice none 0 0)) w.heap.size 3 (.int .i64 0))) (grown_set (((((WE).setCell ⟨w.heap.size, 0, none⟩ (.int .u32 1)).setCell ⟨w.heap.size, 1, none⟩ (.slice none 0 0)).setCell ⟨w.heap.size, 2, none⟩ (.slice none 0 0)).setCell ⟨w.heap.size, 3, none⟩ (.int .i64 0)) w.heap.size 4 (.slice (some ⟨WD.heap.size, 0, none⟩) 1 1))) (grown_set ((((((WE).setCell ⟨w.heap.size, 0, none⟩ (.int .u32 1)).setCell ⟨w.heap.size, 1, none⟩ (.slice none 0 0)).setCell ⟨w.heap.size, 2, none⟩ (.slice none 0 0)).setCell ⟨w.heap.size, 3, none⟩ (.int .i64 0)).setCell ⟨w.heap.size, 4, none⟩ (.slice (some ⟨WD.heap.size, 0, none⟩) 1 1)) w.heap.size 5 (.slice none 0 0))) (grown_set (((((((WE).setCell ⟨w.heap.size, 0, none⟩ (.int .u32 1)).setCell ⟨w.heap.size, 1, none⟩ (.slice none 0 0)).setCell ⟨w.heap.size, 2, none⟩ (.slice none 0 0)).setCell ⟨w.heap.size, 3, none⟩ (.int .i64 0)).setCell ⟨w.heap.size, 4, none⟩ (.slice (some ⟨WD.heap.size, 0, none⟩) 1 1)).setCell ⟨w.heap.size, 5, none⟩ (.slice none 0 0)) w.heap.size 6 (.slice none 0 0))) (grown_set ((((((((WE).setCell ⟨w.heap.size, 0, none⟩ (.int .u32 1)).setCell ⟨w.heap.size, 1, none⟩ (.slice none 0 0)).setCell ⟨w.heap.size, 2, none⟩ (.slice none 0 0)).setCell ⟨w.heap.size, 3, none⟩ (.int .i64 0)).setCell ⟨w.heap.size, 4, none⟩ (.slice (some ⟨WD.heap.size, 0, none⟩) 1 1)).setCell ⟨w.heap.size, 5, none⟩ (.slice none 0 0)).setCell ⟨w.heap.size, 6, none⟩ (.slice none 0 0)) w.heap.size 7 (.slice none 0 0))
  have bF : WF.heap[w.heap.size]? = some (.cells #[.int .u32 1, .slice none 0 0, .slice none 0 0, .int .i64 0, .slice (some ⟨WD.heap.size, 0, none⟩) 1 1, .slice none 0 0, .slice none 0 0, .slice none 0 0] 32 (0, 0)) := by
    rw [← hWF]
    have h1 := blk_set (blk_set (blk_set (blk_set (blk_set (blk_set (blk_set (blk_set (bAE.out) 0 (.int .u32 1)) 1 (.slice none 0 0)) 2 (.slice none 0 0)) 3 (.int .i64 0)) 4 (.slice (some ⟨WD.heap.size, 0, none⟩) 1 1)) 5 (.slice none 0 0)) 6 (.slice none 0 0)) 7 (.slice none 0 0)
    simp only [List.setIfInBounds_toArray, List.set_cons_zero, List.set_cons_succ] at h1
    exact h1
  have FIN : Hid (SmpPost w (.returned (.agg #[.int .u32 1, .slice none 0 0, .slice none 0 0, .int .i64 0, .slice (some ⟨WD.heap.size, 0, none⟩) 1 1, .slice none 0 0, .slice none 0 0, .slice none 0 0])) WF) := Lib.hid (by
    refine ⟨WD.heap.size, WB.heap.size, rfl, ⟨?_, fun d hd => ?_⟩, BE.out.grown gF BE.out.size (fun j hj => by cases hj; exact Nat.le_refl _)⟩
    · have h : SlV 15 WE (.slice (some ⟨WD.heap.size, 0, none⟩) 1 1) [ifE (exIf WB.heap.size)] := by rw [← hWE]; exact sl_one (vals := ifE (exIf WB.heap.size))
      exact SlV.kept h gF (fun b off n c e h => by simp only [Value.slice.injEq, Option.some.injEq, Addr.mk.injEq] at e h; have := LD.out; omega)
    · obtain rfl := List.mem_singleton.1 hd
      refine ⟨⟨?_, fun n hn => ?_⟩⟩
      · have hb := (gF.block _ (blk_lt bCE.out) (by have := LB.out; have := LA.out; simp; omega)).trans bCE.out
        exact sl_blk (vals := nbE exNb) hb
      · obtain rfl := List.mem_singleton.1 hn
        exact ⟨hds_none _, hds_none _, hds_none _, hds_none _⟩)
  have ZK := fun i => blk_free bAE.out i
  have zf0 := ZK 0
  have zf1 := ZK 1
  have zf2 := ZK 2
  have zf3 := ZK 3
  have zf4 := ZK 4
  have zf5 := ZK 5
  have zf6 := ZK 6
  have zf7 := ZK 7
  have c0 : WE.cell? ⟨w.heap.size, 0, none⟩ = some (.int .u32 0) := blk_cell bAE.out rfl
  have c1 : WE.cell? ⟨w.heap.size, 1, none⟩ = some (.slice none 0 0) := blk_cell bAE.out rfl
  have c2 : WE.cell? ⟨w.heap.size, 2, none⟩ = some (.slice none 0 0) := blk_cell bAE.out rfl
  have c3 : WE.cell? ⟨w.heap.size, 3, none⟩ = some (.int .i64 0) := blk_cell bAE.out rfl
  have c4 : WE.cell? ⟨w.heap.size, 4, none⟩ = some (.slice none 0 0) := blk_cell bAE.out rfl
  have c5 : WE.cell? ⟨w.heap.size, 5, none⟩ = some (.slice none 0 0) := blk_cell bAE.out rfl
  have c6 : WE.cell? ⟨w.heap.size, 6, none⟩ = some (.slice none 0 0) := blk_cell bAE.out rfl
  have c7 : WE.cell? ⟨w.heap.size, 7, none⟩ = some (.slice none 0 0) := blk_cell bAE.out rfl
  have g0 : WF.cell? ⟨w.heap.size, 0, none⟩ = some (.int .u32 1) := blk_cell bF rfl
  have g1 : WF.cell? ⟨w.heap.size, 1, none⟩ = some (.slice none 0 0) := blk_cell bF rfl
  have g2 : WF.cell? ⟨w.heap.size, 2, none⟩ = some (.slice none 0 0) := blk_cell bF rfl
  have g3 : WF.cell? ⟨w.heap.size, 3, none⟩ = some (.int .i64 0) := blk_cell bF rfl
  have g4 : WF.cell? ⟨w.heap.size, 4, none⟩ = some (.slice (some ⟨WD.heap.size, 0, none⟩) 1 1) := blk_cell bF rfl
  have g5 : WF.cell? ⟨w.heap.size, 5, none⟩ = some (.slice none 0 0) := blk_cell bF rfl
  have g6 : WF.cell? ⟨w.heap.size, 6, none⟩ = some (.slice none 0 0) := blk_cell bF rfl
  have g7 : WF.cell? ⟨w.heap.size, 7, none⟩ = some (.slice none 0 0) := blk_cell bF rfl
  have G := Lib.hid (And.intro g0 (And.intro g1 (And.intro g2 (And.intro g3 (And.intro g4 (And.intro g5 (And.intro g6 g7)))))))
  have HWE := Lib.hid hWE
  have HWF := Lib.hid hWF
  have n1 : ¬ w.heap.size = WD.heap.size := by have := LD.out; omega
  have n2 : ¬ WD.heap.size = w.heap.size := by have := LD.out; omega
  clear hWE hWF gF bF bE bCE bAE BE bD bCD bAD BD g0 g1 g2 g3 g4 g5 g6 g7 ZK
  go_wp2_with (rw [HWE.out])
  rw [HWF.out]
  obtain ⟨g0, g1, g2, g3, g4, g5, g6, g7⟩ := G.out
  exact bodyPost_ret (v := .agg #[.int .u32 1, .slice none 0 0, .slice none 0 0, .int .i64 0, .slice (some ⟨WD.heap.size, 0, none⟩) 1 1, .slice none 0 0, .slice none 0 0, .slice none 0 0]) (by simp [results, Tryz.results36, go_sem, g0, g1, g2, g3, g4, g5, g6, g7]) rfl FIN.out

end Go.Proofs.YtddageahmgaigaaGreat

namespace Go.Proofs.YtddageahmgaigaaGreat
open Go.RowKit

def exLk : List Lnk := [⟨1, 2, 167772161, 5⟩, ⟨3, 167772160, 30, 5⟩]
theorem exLinks (lk : List Lnk) (h : LinksOf [⟨3, 167772160, 30, 5⟩, ⟨1, 2, 167772161, 5⟩] lk) : lk = exLk := by
  have k := ((LinksOf.nil).add ⟨3, 167772160, 30, 5⟩).add ⟨1, 2, 167772161, 5⟩
  have e : addR ⟨1, 2, 167772161, 5⟩ false (addR ⟨3, 167772160, 30, 5⟩ false []) = exLk := by decide
  rw [e] at k
  exact h.one k fun x => Iff.rfl

def ExPost (w : World) (e : Ending) (w' : World) : Prop := ∃ a c, e = .returned (.agg (lsaE (lsaLk (rtL 1 false false) a 2 c)).toArray) ∧ LnksAt w' (.slice a 2 c) exLk ∧ Below w.heap.size w w'

theorem exRouter_calls (w : World) (b c : Nat) (h : IfsAt w (.slice (some ⟨b, 0, none⟩) 1 1) [⟨exIf c, [exNb]⟩]) :
    Calls Tryz.prog 14 #[.agg (sttE (exSt b)).toArray, .int .u32 0] w (ExPost w) := by
  have hl : lksOf 1 ⟨exIf c, [exNb]⟩ = [⟨3, 167772160, 30, 5⟩, ⟨1, 2, 167772161, 5⟩] := rfl
  have hk : linksK (exSt b).rt 0 [⟨exIf c, [exNb]⟩] 1 = [⟨3, 167772160, 30, 5⟩, ⟨1, 2, 167772161, 5⟩] := rfl
  have R := router_calls w (exSt b) 0 [⟨exIf c, [exNb]⟩] h ?_ ?_ (by show (linksK (exSt b).rt 0 [⟨exIf c, [exNb]⟩] 1).length ≤ 4194304; rw [hk]; decide)
  · refine R.mono fun e w' hp => ?_
    obtain ⟨a, cc, lk, he, h1, h2, h3⟩ := hp
    have h2' : LinksOf [⟨3, 167772160, 30, 5⟩, ⟨1, 2, 167772161, 5⟩] lk := h2
    obtain rfl := exLinks lk h2'
    exact ⟨a, cc, he, h1, h3⟩
  · intro d hd _ W hb
    obtain rfl := List.mem_singleton.1 hd
    have := links_point (exIf c) [exNb] 1 W rfl (by show (0 : Int) ≤ 30; decide) (by show (30 : Int) < 4294967296; decide) ((h.inn _ hd).nb.below hb) (by decide)
    exact this
  · intro d hd x hx
    obtain rfl := List.mem_singleton.1 hd
    rw [show (exSt b).rt = 1 from rfl, hl] at hx
    simp only [List.mem_cons, List.not_mem_nil, or_false] at hx
    rcases hx with rfl | rfl <;> exact ⟨by decide, by decide, by decide⟩

theorem exLk_ok : LnkIs exLk 1 0 := .inr ⟨by decide, .inl ⟨fun i hi => by
  have : i = 0 ∨ i = 1 := by have : exLk.length = 2 := rfl; omega
  rcases this with rfl | rfl <;> decide, rfl⟩⟩
theorem exLk_rng : ∀ y ∈ exLk, 0 ≤ y.id ∧ y.id < 4294967296 ∧ 0 ≤ y.data ∧ y.data < 4294967296 := by decide
theorem ok_ex (x : Lsa) (h : x.id = 1) (h2 : x.router = 1) (h3 : x.fwd = 0) : OkL x := by constructor <;> omega
theorem words_none (w : World) : WordsAt w (.slice none 0 0) [] := ⟨none, 0, rfl, Nat.le_refl _, by unfold maxLen; omega, fun _ => rfl, fun h => absurd h (by simp)⟩

theorem exSeal (W : World) (rb ro lc : Nat) (h : LnksAt W (.slice (some ⟨rb, ro, none⟩) 2 lc) exLk) : Calls Tryz.prog 37 #[.agg #[.int .i64 1, .int .u32 1, .int .i64 0, .int .u32 1, .int .i64 3, .int .i64 100, .int .i64 0, .bool false, .bool false, .slice (some ⟨rb, ro, none⟩) 2 lc, .slice none 0 0, .int .i64 0, .bool false, .int .u32 0, .int .i64 0]] W fun e w' => ∃ sm ka kc ja jc, e = .returned (.tuple #[.agg #[.int .i64 1, .int .u32 1, .int .i64 0, .int .u32 1, .int .i64 3, .int .i64 100, .int .i64 sm, .bool false, .bool false, .slice ka 2 kc, .slice ja 0 jc, .int .i64 0, .bool false, .int .u32 0, .int .i64 0], .int .i64 0]) ∧
    LnksAt w' (.slice ka 2 kc) exLk ∧ WordsAt w' (.slice ja 0 jc) [] ∧ Below W.heap.size W w' ∧ Fr W.heap.size (.slice ka 2 kc) ∧ Fr W.heap.size (.slice ja 0 jc) := by
  have hz : LsaIs ⟨1, 1, 0, 1, 3, 100, 0, false, false, (some ⟨rb, ro, none⟩), 2, lc, none, 0, 0, 0, false, 0, 0⟩ exLk [] 0 := .inr (.inr ⟨(by show headP 1 1 0 1 3 100 0 = 0; decide), rfl, .inl ⟨rfl, exLk_ok⟩⟩)
  have SL := rseal_ok ⟨1, 1, 0, 1, 3, 100, 0, false, false, (some ⟨rb, ro, none⟩), 2, lc, none, 0, 0, 0, false, 0, 0⟩ exLk [] W ⟨ok_ex _ rfl rfl rfl, h, exLk_rng, words_none W, (fun y hy => by cases hy)⟩ (by decide) (by decide) hz
  obtain ⟨sm, hsm⟩ : ∃ sm, sumD ⟨⟨1, 1, 0, 1, 3, 100, 0, false, false, (some ⟨rb, ro, none⟩), 2, lc, none, 0, 0, 0, false, 0, 0⟩, exLk, []⟩ = sm := ⟨_, rfl⟩
  rw [hsm] at SL
  clear hsm
  refine SL.mono fun e w' hp => ?_
  obtain ⟨ka, kc, ja, jc, he, h1, h2, h3, h4, h5⟩ := hp
  exact ⟨sm, ka, kc, ja, jc, he, h1, h2, h3, h4, h5⟩

theorem exStop (W : World) (v : Value) (rb ro lc : Nat) (sm : Int) (ka : Option Addr) (kc : Nat) (ja : Option Addr) (jc : Nat) (hv : LsasAt W v [⟨1, 1, 0, 1, 3, 100, sm, false, false, ka, 2, kc, ja, 0, jc, 0, false, 0, 0⟩]) (h1 : LnksAt W (.slice ka 2 kc) exLk) (h2 : WordsAt W (.slice ja 0 jc) []) (h : LnksAt W (.slice (some ⟨rb, ro, none⟩) 2 lc) exLk) :
    Calls Tryz.prog 20 #[v, .agg #[.int .i64 1, .int .u32 1, .int .i64 0, .int .u32 1, .int .i64 0, .int .i64 0, .int .i64 0, .bool false, .bool false, .slice (some ⟨rb, ro, none⟩) 2 lc, .slice none 0 0, .int .i64 0, .bool false, .int .u32 0, .int .i64 0]] W (NxStop W 0) :=
  next_A W v [⟨⟨1, 1, 0, 1, 3, 100, sm, false, false, ka, 2, kc, ja, 0, jc, 0, false, 0, 0⟩, exLk, []⟩] hv (fun d hd => by obtain rfl := List.mem_singleton.1 hd; exact ⟨h1, h2, (by show exLk.length ≤ 1048576; decide), (by show ([] : List Int).length ≤ 1048576; decide)⟩) ⟨1, 1, 0, 1, 0, 0, 0, false, false, (some ⟨rb, ro, none⟩), 2, lc, none, 0, 0, 0, false, 0, 0⟩ exLk [] ⟨ok_ex _ rfl rfl rfl, h, exLk_rng, words_none _, (fun y hy => by cases hy)⟩ ⟨⟨1, 1, 0, 1, 3, 100, sm, false, false, ka, 2, kc, ja, 0, jc, 0, false, 0, 0⟩, exLk, []⟩ (by simp) rfl (fun d' hd' _ => List.mem_singleton.1 hd') ⟨rfl, rfl, rfl, rfl, rfl, rfl, rfl, rfl, rfl⟩ (by show (100 : Int) < 1800; decide)

theorem exNext (W : World) (v : Value) (rb ro lc : Nat) (sm : Int) (ka : Option Addr) (kc : Nat) (ja : Option Addr) (jc : Nat) (hv : LsasAt W v [⟨1, 1, 0, 1, 3, 1800, sm, false, false, ka, 2, kc, ja, 0, jc, 0, false, 0, 0⟩]) (h1 : LnksAt W (.slice ka 2 kc) exLk) (h2 : WordsAt W (.slice ja 0 jc) []) (h : LnksAt W (.slice (some ⟨rb, ro, none⟩) 2 lc) exLk) :
    Calls Tryz.prog 20 #[v, .agg #[.int .i64 1, .int .u32 1, .int .i64 0, .int .u32 1, .int .i64 0, .int .i64 0, .int .i64 0, .bool false, .bool false, .slice (some ⟨rb, ro, none⟩) 2 lc, .slice none 0 0, .int .i64 0, .bool false, .int .u32 0, .int .i64 0]] W fun e w' => ∃ s a1 c1 a2 c2, e = .returned (.tuple #[.agg #[.int .i64 1, .int .u32 1, .int .i64 0, .int .u32 1, .int .i64 4, .int .i64 0, .int .i64 s, .bool false, .bool false, .slice a1 2 c1, .slice a2 0 c2, .int .i64 0, .bool false, .int .u32 0, .int .i64 0], .bool true, .int .i64 0]) ∧ Below W.heap.size W w' := by
  have hz : LsaIs { (⟨1, 1, 0, 1, 0, 0, 0, false, false, (some ⟨rb, ro, none⟩), 2, lc, none, 0, 0, 0, false, 0, 0⟩ : Lsa) with seq := 3 + 1, age := 0, sum := 0 } exLk [] 0 := .inr (.inr ⟨(by show headP 1 1 0 1 (3 + 1) 0 0 = 0; decide), rfl, .inl ⟨rfl, exLk_ok⟩⟩)
  have N := next_oD0 W v [⟨⟨1, 1, 0, 1, 3, 1800, sm, false, false, ka, 2, kc, ja, 0, jc, 0, false, 0, 0⟩, exLk, []⟩] hv (fun d hd => by obtain rfl := List.mem_singleton.1 hd; exact ⟨h1, h2, (by show exLk.length ≤ 1048576; decide), (by show ([] : List Int).length ≤ 1048576; decide)⟩) ⟨1, 1, 0, 1, 0, 0, 0, false, false, (some ⟨rb, ro, none⟩), 2, lc, none, 0, 0, 0, false, 0, 0⟩ exLk [] ⟨ok_ex _ rfl rfl rfl, h, exLk_rng, words_none _, (fun y hy => by cases hy)⟩ (by decide) (by decide) ⟨⟨1, 1, 0, 1, 3, 1800, sm, false, false, ka, 2, kc, ja, 0, jc, 0, false, 0, 0⟩, exLk, []⟩ (by simp) rfl (fun d' hd' _ => List.mem_singleton.1 hd') ⟨rfl, rfl, rfl, rfl, rfl, rfl, rfl, rfl, rfl⟩ (by show ¬ (1800 : Int) < 1800; decide) (by show (3 : Int) < 2147483647; decide) (by show (1 : Int) ≤ 3; decide) hz
  refine N.mono fun e w' hp => ?_
  obtain ⟨c, k1, k2⟩ := hp
  rcases k2 with ⟨k3, _, _⟩ | ⟨_, a1, c1, a2, c2, k4, _, _, k5⟩
  · exact absurd (k1.one hz) k3
  · generalize sumD _ = s at k4
    exact ⟨s, a1, c1, a2, c2, k4, k5.1⟩

def LvR (W3 : World) (ag : Int) (wx : World) : Prop := ∃ sm ka kc ja jc, wx.heap[W3.heap.size]? = some (.cells #[.int .i64 1, .int .u32 1, .int .i64 0, .int .u32 1, .int .i64 3, .int .i64 ag, .int .i64 sm, .bool false, .bool false, .slice ka 2 kc, .slice ja 0 jc, .int .i64 0, .bool false, .int .u32 0, .int .i64 0] 42 (0, 0)) ∧ LnksAt wx (.slice ka 2 kc) exLk ∧ WordsAt wx (.slice ja 0 jc) [] ∧ Below W3.heap.size W3 wx ∧
  (∀ b off n c, (.slice ka 2 kc : Value) = .slice (some ⟨b, off, none⟩) n c → some W3.heap.size ≠ some b) ∧ (∀ b off n c, (.slice ja 0 jc : Value) = .slice (some ⟨b, off, none⟩) n c → some W3.heap.size ≠ some b)

def dropS : Nat → Code → Code
  | 0, c => c
  | n + 1, .seq _ b => dropS n b
  | _ + 1, c => c

set_option maxHeartbeats 16000000 in
set_option maxRecDepth 100000 in
theorem lives_tail (w w2 W3 W9 : World) (rb ro lc : Nat) (hX3 : W3.heap[w2.heap.size]? = some (.cells #[.int .i64 1, .int .u32 1, .int .i64 0, .int .u32 1, .int .i64 0, .int .i64 0, .int .i64 0, .bool false, .bool false, .slice (some ⟨rb, ro, none⟩) 2 lc, .slice none 0 0, .int .i64 0, .bool false, .int .u32 0, .int .i64 0] 42 (0, 0))) (hLK3 : LnksAt W3 (.slice (some ⟨rb, ro, none⟩) 2 lc) exLk) (hB3 : Below w.heap.size w W3) (hcut : LvR W3 100 W9) (u0 u4 u10 u11 u12 u13 u14 u15 u16 u17 u18 u19 u20 u21 u22 u23 u24 u25 u26 u27 u28 u29 u30 u31 u32 u33 u34 u35 u36 u37 u38 u39 u40 u41 u42 u43 u44 u45 u46 u47 u48 u49 u50 u51 u52 u53 u54 u55 u56 u57 u58 u59 u60 u61 u62 u63 u64 u65 u66 u67 u68 u69 u70 u71 u72 u73 u74 u75 u76 u77 u78 u79 u80 u81 u82 u83 u84 u85 u86 u87 u88 : Value) :
    Code.wp Tryz.prog (dropS 8 (Tryz.f12.body.getD .skip)) (bodyPost Tryz.prog Tryz.f12 fun e w' => e = .returned (.bool true) ∧ Below w.heap.size w w') { tmps := #[u0, .pointer (some ⟨w2.heap.size, 0, none⟩), .pointer (some ⟨W3.heap.size, 0, none⟩), .int .i64 0, u4, .bool false, .int .i64 0, undef, undef, undef, u10, u11, u12, u13, u14, u15, u16, u17, u18, u19, u20, u21, u22, u23, u24, u25, u26, u27, u28, u29, u30, u31, u32, u33, u34, u35, u36, u37, u38, u39, u40, u41, u42, u43, u44, u45, u46, u47, u48, u49, u50, u51, u52, u53, u54, u55, u56, u57, u58, u59, u60, u61, u62, u63, u64, u65, u66, u67, u68, u69, u70, u71, u72, u73, u74, u75, u76, u77, u78, u79, u80, u81, u82, u83, u84, u85, u86, u87, u88], defers := [] } W9 := by
  have X3 := Lib.hid hX3
  have LK3 := Lib.hid hLK3
  have HB3 := Lib.hid hB3
  clear hX3 hLK3 hB3
  obtain ⟨sm, ka, kc, ja, jc, X9h, KL9, KA9, B9h, NE1h, NE2h⟩ := hcut
  have X9 := Lib.hid X9h
  have B9 := Lib.hid B9h
  have NE1 := Lib.hid NE1h
  have NE2 := Lib.hid NE2h
  clear X9h B9h NE1h NE2h
  conv => enter [2]; whnf
  go_upto_region 9 with fail
  obtain ⟨WB, hWB⟩ : ∃ WB, W9.setCell ⟨W3.heap.size, 5, none⟩ (.int .i64 1800) = WB := ⟨_, rfl⟩
  have XB : Hid (WB.heap[W3.heap.size]? = some (.cells #[.int .i64 1, .int .u32 1, .int .i64 0, .int .u32 1, .int .i64 3, .int .i64 1800, .int .i64 sm, .bool false, .bool false, .slice ka 2 kc, .slice ja 0 jc, .int .i64 0, .bool false, .int .u32 0, .int .i64 0] 42 (0, 0))) := Lib.hid (by
    rw [← hWB]
    have h1 := blk_set X9.out 5 (.int .i64 1800)
    simp only [List.setIfInBounds_toArray, List.set_cons_zero, List.set_cons_succ] at h1
    exact h1)
  have GB : W9.grownBy WB (some W3.heap.size) := by rw [← hWB]; exact grown_set W9 W3.heap.size 5 _
  have BB : Hid (Below W3.heap.size W3 WB) := Lib.hid (B9.out.grown GB B9.out.size (fun j hj => by cases hj; exact Nat.le_refl _))
  have KLB : Hid (LnksAt WB (.slice ka 2 kc) exLk) := Lib.hid (SlV.kept KL9 GB (fun b off n c e => NE1.out b off n c e))
  have KAB : Hid (WordsAt WB (.slice ja 0 jc) []) := Lib.hid (SlV.kept KA9 GB (fun b off n c e => NE2.out b off n c e))
  have k5 : W9.cell? ⟨W3.heap.size, 5, none⟩ = some (.int .i64 100) := blk_cell X9.out rfl
  have kf5 := blk_free X9.out 5
  have HWB := Lib.hid hWB
  clear hWB KL9 KA9 GB
  go_upto_region 10 with fail
  rw [HWB.out]
  clear HWB k5 kf5
  obtain ⟨WC, hWC⟩ : ∃ WC, WB.alloc (.cells #[.int .i64 1, .int .u32 1, .int .i64 0, .int .u32 1, .int .i64 3, .int .i64 1800, .int .i64 sm, .bool false, .bool false, .slice ka 2 kc, .slice ja 0 jc, .int .i64 0, .bool false, .int .u32 0, .int .i64 0] 42) = WC := ⟨_, rfl⟩
  have BBC : Below WB.heap.size WB WC := by rw [← hWC]; exact (Below.refl _ _).alloc (Nat.le_refl _) _
  have BC : Hid (Below W3.heap.size W3 WC) := Lib.hid (BB.out.trans (BBC.mono BB.out.size))
  have TC : Hid (WC.heap[w2.heap.size]? = some (.cells #[.int .i64 1, .int .u32 1, .int .i64 0, .int .u32 1, .int .i64 0, .int .i64 0, .int .i64 0, .bool false, .bool false, .slice (some ⟨rb, ro, none⟩) 2 lc, .slice none 0 0, .int .i64 0, .bool false, .int .u32 0, .int .i64 0] 42 (0, 0))) := Lib.hid ((BC.out.block _ (blk_lt X3.out)).trans X3.out)
  have NB := Lib.hid (exNext WC (.slice (some ⟨WB.heap.size, 0, none⟩) 1 1) rb ro lc sm ka kc ja jc (by rw [← hWC]; exact sl_one (vals := lsaE ⟨1, 1, 0, 1, 3, 1800, sm, false, false, ka, 2, kc, ja, 0, jc, 0, false, 0, 0⟩)) (KLB.out.below BBC) (KAB.out.below BBC) (LK3.out.below BC.out))
  have HWC := Lib.hid hWC
  obtain ⟨⟨⟨e0, e1, e2, e3, e4⟩, ⟨e5, e6, e7, e8, e9⟩, ⟨e10, e11, e12, e13, e14⟩⟩, -⟩ := blk15 XB.out
  obtain ⟨⟨⟨f0, f1, f2, f3, f4⟩, ⟨f5, f6, f7, f8, f9⟩, ⟨f10, f11, f12, f13, f14⟩⟩, -⟩ := blk15 TC.out
  clear hWC BBC
  go_cut [7, 8, 9] (fun s7 s8 s9 wx => ∃ bb, s7 = .pointer (some ⟨bb, 0, none⟩) ∧ s8 = .bool true ∧ s9 = .int .i64 0 ∧ wx.cell? ⟨bb, 4, none⟩ = some (.int .i64 4) ∧ wx.cell? ⟨bb, 5, none⟩ = some (.int .i64 0) ∧ Below w.heap.size w wx)
  case first =>
    go_wp2_with (rw [HWC.out])
    refine NB.out.mono ?_
    rintro e w12 ⟨s, a1, c1, a2, c2, rfl, B12⟩
    clear e0 e1 e2 e3 e4 e5 e6 e7 e8 e9 e10 e11 e12 e13 e14 f0 f1 f2 f3 f4 f5 f6 f7 f8 f9 f10 f11 f12 f13 f14 NB
    obtain ⟨WD, hWD⟩ : ∃ WD, w12.alloc (.cells #[.int .i64 1, .int .u32 1, .int .i64 0, .int .u32 1, .int .i64 4, .int .i64 0, .int .i64 s, .bool false, .bool false, .slice a1 2 c1, .slice a2 0 c2, .int .i64 0, .bool false, .int .u32 0, .int .i64 0] 42) = WD := ⟨_, rfl⟩
    have XD : WD.heap[w12.heap.size]? = some (.cells #[.int .i64 1, .int .u32 1, .int .i64 0, .int .u32 1, .int .i64 4, .int .i64 0, .int .i64 s, .bool false, .bool false, .slice a1 2 c1, .slice a2 0 c2, .int .i64 0, .bool false, .int .u32 0, .int .i64 0] 42 (0, 0)) := by rw [← hWD]; exact alloc_new _ _
    have FIN : Hid (Below w.heap.size w WD) := Lib.hid (by
      have h1 : Below WC.heap.size WC WD := by rw [← hWD]; exact B12.alloc B12.size _
      have h2 := BC.out.trans (h1.mono BC.out.size)
      exact HB3.out.trans (h2.mono HB3.out.size))
    have v4 : WD.cell? ⟨w12.heap.size, 4, none⟩ = some (.int .i64 4) := blk_cell XD rfl
    have v5 : WD.cell? ⟨w12.heap.size, 5, none⟩ = some (.int .i64 0) := blk_cell XD rfl
    have HWD := Lib.hid hWD
    have MID : Hid (WD.cell? ⟨w12.heap.size, 4, none⟩ = some (.int .i64 4) ∧ WD.cell? ⟨w12.heap.size, 5, none⟩ = some (.int .i64 0)) := Lib.hid ⟨v4, v5⟩
    clear hWD XD B12 v4 v5
    go_wp2_with fail
    go_meet
    rw [HWD.out]
    exact ⟨_, rfl, rfl, rfl, MID.out.1, MID.out.2, FIN.out⟩
  case rest =>
  clear NB e0 e1 e2 e3 e4 e5 e6 e7 e8 e9 e10 e11 e12 e13 e14 f0 f1 f2 f3 f4 f5 f6 f7 f8 f9 f10 f11 f12 f13 f14 HWC
  obtain ⟨bb, rfl, rfl, rfl, v4, v5, FI⟩ := hcut
  have FIN := Lib.hid FI
  clear FI
  go_wp2_with fail
  go_ret
  exact ⟨rfl, FIN.out⟩

set_option maxHeartbeats 16000000 in
set_option maxRecDepth 100000 in
theorem lives_calls (w : World) : Calls Tryz.prog 12 #[] w fun e w' => e = .returned (.bool true) ∧ Below w.heap.size w w' := by
  have SP := Lib.hid (sample_calls w)
  have N0 := fun W => neLnk ⟨1, 2, 167772161, 5⟩ ⟨1, 2, 167772161, 5⟩ W
  have N1 := fun W => neLnk ⟨3, 167772160, 30, 5⟩ ⟨3, 167772160, 30, 5⟩ W
  simp only [lnkE, ne_eq, not_true_eq_false, decide_false] at N0 N1
  go_enter Tryz.func12, Tryz.ntmps12
  go_upto_region 1 with fail
  go_wp2_with fail
  refine SP.out.mono ?_
  rintro e w1 ⟨b, c, rfl, IF1, B1⟩
  have RT := Lib.hid (exRouter_calls w1 b c IF1)
  have HB1 := Lib.hid B1
  clear SP IF1 B1
  simp only [sttE, exSt] at RT ⊢
  go_wp2_with fail
  refine RT.out.mono ?_
  rintro e w2 ⟨la, lc, rfl, LK2, B2⟩
  have HB2 := Lib.hid (HB1.out.trans (B2.mono HB1.out.size))
  have HLK2 := Lib.hid LK2
  obtain ⟨la', lc', ev, hrow⟩ := LK2.get
  simp only [Value.slice.injEq] at ev
  obtain ⟨rfl, -, rfl⟩ := ev
  obtain ⟨rb, ro, rfl, hrb, hrc⟩ := hrow (by decide)
  have row0 := hrc 0 (by decide)
  have row1 := hrc 1 (by decide)
  simp only [exLk, List.getElem_cons_zero, List.getElem_cons_succ, Nat.zero_mul, Nat.add_zero, Nat.one_mul] at row0 row1
  have HR0 := Lib.hid row0
  have HR1 := Lib.hid row1
  have HRB := Lib.hid hrb
  clear RT HB1 B2 LK2 hrow hrc row0 row1 hrb
  simp only [lsaE, lsaLk, rtL]
  obtain ⟨W3, hW3⟩ : ∃ W3, w2.alloc (.cells #[.int .i64 1, .int .u32 1, .int .i64 0, .int .u32 1, .int .i64 0, .int .i64 0, .int .i64 0, .bool false, .bool false, .slice (some ⟨rb, ro, none⟩) 2 lc, .slice none 0 0, .int .i64 0, .bool false, .int .u32 0, .int .i64 0] 42) = W3 := ⟨_, rfl⟩
  have B3 : Below w2.heap.size w2 W3 := by rw [← hW3]; exact (Below.refl _ _).alloc (Nat.le_refl _) _
  have X3 : Hid (W3.heap[w2.heap.size]? = some (.cells #[.int .i64 1, .int .u32 1, .int .i64 0, .int .u32 1, .int .i64 0, .int .i64 0, .int .i64 0, .bool false, .bool false, .slice (some ⟨rb, ro, none⟩) 2 lc, .slice none 0 0, .int .i64 0, .bool false, .int .u32 0, .int .i64 0] 42 (0, 0))) := Lib.hid (by rw [← hW3]; exact alloc_new _ _)
  have HB3 := Lib.hid (HB2.out.trans (B3.mono HB2.out.size))
  have LK3 := Lib.hid (HLK2.out.below B3)
  have SZ2 := Lib.hid (HB2.out.size)
  have up : ∀ {o : Nat} {u : Value}, w2.cell? ⟨rb, o, none⟩ = some u → W3.cell? ⟨rb, o, none⟩ = some u := fun {o u} hh => (World.cell?_of_block (w := w2) (w' := W3) (a := ⟨rb, o, none⟩) (B3.block rb HRB.out)).trans hh
  have r0 := up HR0.out.1
  have r1 := up HR0.out.2.1
  have r2 := up HR0.out.2.2.1
  have r3 := up HR0.out.2.2.2
  have r4 := up HR1.out.1
  have r5 := up HR1.out.2.1
  have r6 := up HR1.out.2.2.1
  have r7 := up HR1.out.2.2.2
  have HW3 := Lib.hid hW3
  clear hW3 B3 up HR0 HR1 HRB HLK2 HB2
  go_upto_region 2 with fail
  rw [HW3.out]
  clear HW3
  obtain ⟨⟨⟨d0, d1, d2, d3, d4⟩, ⟨d5, d6, d7, d8, d9⟩, ⟨d10, d11, d12, d13, d14⟩⟩, -⟩ := blk15 X3.out
  go_upto_if 31 with fail
  clear r0 r1 r2 r3 r4 r5 r6 r7
  go_cut [] (fun wx => wx = W3)
  case first =>
      go_wp2_with fail
      go_meet
      rfl
  case rest =>
  rw [hcut]
  clear hcut
  clear N0 N1
  obtain ⟨W4, hW4⟩ : ∃ W4, W3.alloc (.cells #[.int .i64 1, .int .u32 1, .int .i64 0, .int .u32 1, .int .i64 0, .int .i64 0, .int .i64 0, .bool false, .bool false, .slice (some ⟨rb, ro, none⟩) 2 lc, .slice none 0 0, .int .i64 0, .bool false, .int .u32 0, .int .i64 0] 42) = W4 := ⟨_, rfl⟩
  have X4 : Hid (W4.heap[W3.heap.size]? = some (.cells #[.int .i64 1, .int .u32 1, .int .i64 0, .int .u32 1, .int .i64 0, .int .i64 0, .int .i64 0, .bool false, .bool false, .slice (some ⟨rb, ro, none⟩) 2 lc, .slice none 0 0, .int .i64 0, .bool false, .int .u32 0, .int .i64 0] 42 (0, 0))) := Lib.hid (by rw [← hW4]; exact alloc_new _ _)
  have B4 : Hid (Below W3.heap.size W3 W4) := Lib.hid (by rw [← hW4]; exact (Below.refl _ _).alloc (Nat.le_refl _) _)
  have HW4 := Lib.hid hW4
  clear hW4
  go_upto_region 5 with fail
  rw [HW4.out]
  clear HW4 d0 d1 d2 d3 d4 d5 d6 d7 d8 d9 d10 d11 d12 d13 d14
  obtain ⟨WA, hWA⟩ : ∃ WA, (W4.setCell ⟨W3.heap.size, 4, none⟩ (.int .i64 3)).setCell ⟨W3.heap.size, 5, none⟩ (.int .i64 100) = WA := ⟨_, rfl⟩
  have XA : Hid (WA.heap[W3.heap.size]? = some (.cells #[.int .i64 1, .int .u32 1, .int .i64 0, .int .u32 1, .int .i64 3, .int .i64 100, .int .i64 0, .bool false, .bool false, .slice (some ⟨rb, ro, none⟩) 2 lc, .slice none 0 0, .int .i64 0, .bool false, .int .u32 0, .int .i64 0] 42 (0, 0))) := Lib.hid (by
    rw [← hWA]
    have h1 := blk_set (blk_set X4.out 4 (.int .i64 3)) 5 (.int .i64 100)
    simp only [List.setIfInBounds_toArray, List.set_cons_zero, List.set_cons_succ] at h1
    exact h1)
  have BA : Hid (Below W3.heap.size W3 WA) := Lib.hid (by rw [← hWA]; exact (B4.out.setCell (p := ⟨W3.heap.size, 4, none⟩) (Nat.le_refl _) _).setCell (p := ⟨W3.heap.size, 5, none⟩) (Nat.le_refl _) _)
  have k4 : W4.cell? ⟨W3.heap.size, 4, none⟩ = some (.int .i64 0) := blk_cell X4.out rfl
  have k5 : W4.cell? ⟨W3.heap.size, 5, none⟩ = some (.int .i64 0) := blk_cell X4.out rfl
  have kf4 := blk_free X4.out 4
  have kf5 := blk_free X4.out 5
  have HWA := Lib.hid hWA
  clear hWA
  go_upto_region 7 with fail
  rw [HWA.out]
  clear HWA k4 k5 kf4 kf5 B4 X4
  have SL := Lib.hid (exSeal WA rb ro lc (LK3.out.below BA.out))
  obtain ⟨⟨⟨e0, e1, e2, e3, e4⟩, ⟨e5, e6, e7, e8, e9⟩, ⟨e10, e11, e12, e13, e14⟩⟩, -⟩ := blk15 XA.out
  go_cut [3] (fun s3 wx => s3 = .int .i64 0 ∧ LvR W3 100 wx)
  case first =>
    go_wp2_with fail
    refine SL.out.mono ?_
    rintro e w5 ⟨sm, ka, kc, ja, jc, rfl, KL, KA, B5, FL, FA⟩
    have X5 := (B5.block _ (blk_lt XA.out)).trans XA.out
    have LXA := blk_lt XA.out
    have HB5 := Lib.hid (BA.out.trans (B5.mono BA.out.size))
    clear SL e0 e1 e2 e3 e4 e5 e6 e7 e8 e9 e10 e11 e12 e13 e14
    obtain ⟨W6, hW6⟩ : ∃ W6, setLsa w5 W3.heap.size ⟨1, 1, 0, 1, 3, 100, sm, false, false, ka, 2, kc, ja, 0, jc, 0, false, 0, 0⟩ = W6 := ⟨_, rfl⟩
    have X6 : Hid (W6.heap[W3.heap.size]? = some (.cells #[.int .i64 1, .int .u32 1, .int .i64 0, .int .u32 1, .int .i64 3, .int .i64 100, .int .i64 sm, .bool false, .bool false, .slice ka 2 kc, .slice ja 0 jc, .int .i64 0, .bool false, .int .u32 0, .int .i64 0] 42 (0, 0))) := Lib.hid (by rw [← hW6]; exact setLsa_blk X5 _)
    have G6 : w5.grownBy W6 (some W3.heap.size) := by rw [← hW6]; exact setLsa_grown _ _ _
    have B6 : Hid (Below W3.heap.size W3 W6) := Lib.hid (HB5.out.grown G6 HB5.out.size (fun j hj => by cases hj; exact Nat.le_refl _))
    have NE1 : Hid (∀ b off n c, (.slice ka 2 kc : Value) = .slice (some ⟨b, off, none⟩) n c → some W3.heap.size ≠ some b) := Lib.hid (fun b off n c e h => by have := FL b off n c e; cases h; omega)
    have NE2 : Hid (∀ b off n c, (.slice ja 0 jc : Value) = .slice (some ⟨b, off, none⟩) n c → some W3.heap.size ≠ some b) := Lib.hid (fun b off n c e h => by have := FA b off n c e; cases h; omega)
    have KL6 : Hid (LnksAt W6 (.slice ka 2 kc) exLk) := Lib.hid (SlV.far KL FL LXA G6)
    have KA6 : Hid (WordsAt W6 (.slice ja 0 jc) []) := Lib.hid (SlV.far KA FA LXA G6)
    obtain ⟨⟨⟨z0, z1, z2, z3, z4⟩, ⟨z5, z6, z7, z8, z9⟩, ⟨z10, z11, z12, z13, z14⟩⟩, hfz⟩ := blk15 X5
    have zf0 := hfz 0
    have zf1 := hfz 1
    have zf2 := hfz 2
    have zf3 := hfz 3
    have zf4 := hfz 4
    have zf5 := hfz 5
    have zf6 := hfz 6
    have zf7 := hfz 7
    have zf8 := hfz 8
    have zf9 := hfz 9
    have zf10 := hfz 10
    have zf11 := hfz 11
    have zf12 := hfz 12
    have zf13 := hfz 13
    have zf14 := hfz 14
    unfold setLsa at hW6
    simp only at hW6
    have HW6 := Lib.hid hW6
    clear hW6 KL KA FL FA B5 G6 X5 hfz HB5 BA XA
    have MID : Hid (LvR W3 100 W6) := Lib.hid ⟨sm, ka, kc, ja, jc, X6.out, KL6.out, KA6.out, B6.out, NE1.out, NE2.out⟩
    clear X6 KL6 KA6 B6 NE1 NE2
    go_wp2_with fail
    go_meet
    rw [HW6.out]
    exact ⟨rfl, MID.out⟩
  case rest =>
  clear SL XA BA e0 e1 e2 e3 e4 e5 e6 e7 e8 e9 e10 e11 e12 e13 e14
  obtain ⟨rfl, sm, ka, kc, ja, jc, X6h, KL6h, KA6h, B6h, NE1h, NE2h⟩ := hcut
  obtain ⟨W6, eW6⟩ : ∃ W6, W6 = wc := ⟨_, rfl⟩
  subst eW6
  have X6 := Lib.hid X6h
  have KL6 := Lib.hid KL6h
  have KA6 := Lib.hid KA6h
  have B6 := Lib.hid B6h
  have NE1 := Lib.hid NE1h
  have NE2 := Lib.hid NE2h
  clear X6h KL6h KA6h B6h NE1h NE2h
  obtain ⟨W7, hW7⟩ : ∃ W7, W6.alloc (.cells #[.int .i64 1, .int .u32 1, .int .i64 0, .int .u32 1, .int .i64 3, .int .i64 100, .int .i64 sm, .bool false, .bool false, .slice ka 2 kc, .slice ja 0 jc, .int .i64 0, .bool false, .int .u32 0, .int .i64 0] 42) = W7 := ⟨_, rfl⟩
  have B67 : Below W6.heap.size W6 W7 := by rw [← hW7]; exact (Below.refl _ _).alloc (Nat.le_refl _) _
  have B7 : Hid (Below W3.heap.size W3 W7) := Lib.hid (B6.out.trans (B67.mono B6.out.size))
  have X7 : Hid (W7.heap[W3.heap.size]? = some (.cells #[.int .i64 1, .int .u32 1, .int .i64 0, .int .u32 1, .int .i64 3, .int .i64 100, .int .i64 sm, .bool false, .bool false, .slice ka 2 kc, .slice ja 0 jc, .int .i64 0, .bool false, .int .u32 0, .int .i64 0] 42 (0, 0))) := Lib.hid ((B67.block _ (blk_lt X6.out)).trans X6.out)
  have T7 : Hid (W7.heap[w2.heap.size]? = some (.cells #[.int .i64 1, .int .u32 1, .int .i64 0, .int .u32 1, .int .i64 0, .int .i64 0, .int .i64 0, .bool false, .bool false, .slice (some ⟨rb, ro, none⟩) 2 lc, .slice none 0 0, .int .i64 0, .bool false, .int .u32 0, .int .i64 0] 42 (0, 0))) := Lib.hid ((B7.out.block _ (blk_lt X3.out)).trans X3.out)
  have NA := Lib.hid (exStop W7 (.slice (some ⟨W6.heap.size, 0, none⟩) 1 1) rb ro lc sm ka kc ja jc (by rw [← hW7]; exact sl_one (vals := lsaE ⟨1, 1, 0, 1, 3, 100, sm, false, false, ka, 2, kc, ja, 0, jc, 0, false, 0, 0⟩)) (KL6.out.below B67) (KA6.out.below B67) (LK3.out.below B7.out))
  have KL7 := Lib.hid (KL6.out.below B67)
  have KA7 := Lib.hid (KA6.out.below B67)
  have HW7 := Lib.hid hW7
  obtain ⟨⟨⟨e0, e1, e2, e3, e4⟩, ⟨e5, e6, e7, e8, e9⟩, ⟨e10, e11, e12, e13, e14⟩⟩, -⟩ := blk15 X6.out
  obtain ⟨⟨⟨f0, f1, f2, f3, f4⟩, ⟨f5, f6, f7, f8, f9⟩, ⟨f10, f11, f12, f13, f14⟩⟩, -⟩ := blk15 T7.out
  clear hW7 B67
  go_upto_region 8 with fail
  go_cut [5, 6] (fun s5 s6 wx => s5 = .bool false ∧ s6 = .int .i64 0 ∧ LvR W3 100 wx)
  case first =>
    go_wp2_with (rw [HW7.out])
    refine NA.out.mono ?_
    rintro e w8 ⟨rfl, B8⟩
    clear e0 e1 e2 e3 e4 e5 e6 e7 e8 e9 e10 e11 e12 e13 e14 f0 f1 f2 f3 f4 f5 f6 f7 f8 f9 f10 f11 f12 f13 f14 NA
    simp only [lsaE, lsaZ]
    obtain ⟨W9, hW9⟩ : ∃ W9, w8.alloc (.cells #[.int .i64 0, .int .u32 0, .int .i64 0, .int .u32 0, .int .i64 0, .int .i64 0, .int .i64 0, .bool false, .bool false, .slice none 0 0, .slice none 0 0, .int .i64 0, .bool false, .int .u32 0, .int .i64 0] 42) = W9 := ⟨_, rfl⟩
    have B89 : Below w8.heap.size w8 W9 := by rw [← hW9]; exact (Below.refl _ _).alloc (Nat.le_refl _) _
    have B79 := B8.trans (B89.mono B8.size)
    have B9 : Hid (Below W3.heap.size W3 W9) := Lib.hid (B7.out.trans (B79.mono B7.out.size))
    have X9 : Hid (W9.heap[W3.heap.size]? = some (.cells #[.int .i64 1, .int .u32 1, .int .i64 0, .int .u32 1, .int .i64 3, .int .i64 100, .int .i64 sm, .bool false, .bool false, .slice ka 2 kc, .slice ja 0 jc, .int .i64 0, .bool false, .int .u32 0, .int .i64 0] 42 (0, 0))) := Lib.hid ((B79.block _ (blk_lt X7.out)).trans X7.out)
    have KL9 := KL7.out.below B79
    have KA9 := KA7.out.below B79
    have HW9 := Lib.hid hW9
    have MID : Hid (LvR W3 100 W9) := Lib.hid ⟨sm, ka, kc, ja, jc, X9.out, KL9, KA9, B9.out, NE1.out, NE2.out⟩
    clear hW9 B89 B8 X9 KL9 KA9 B9
    go_wp2_with fail
    go_meet
    rw [HW9.out]
    exact ⟨rfl, rfl, MID.out⟩
  case rest =>
  clear NA e0 e1 e2 e3 e4 e5 e6 e7 e8 e9 e10 e11 e12 e13 e14 f0 f1 f2 f3 f4 f5 f6 f7 f8 f9 f10 f11 f12 f13 f14 HW7 KL7 KA7 X7 T7 B7 X6 KL6 KA6 B6 NE1 NE2
  clear sm ka kc ja jc
  obtain ⟨rfl, rfl, L9⟩ := hcut
  rename_i K hK
  refine hK _ _ ?_
  exact lives_tail w w2 W3 _ rb ro lc X3.out LK3.out HB3.out L9 _ _ _ _ _ _ _ _ _ _ _ _ _ _ _ _ _ _ _ _ _ _ _ _ _ _ _ _ _ _ _ _ _ _ _ _ _ _ _ _ _ _ _ _ _ _ _ _ _ _ _ _ _ _ _ _ _ _ _ _ _ _ _ _ _ _ _ _ _ _ _ _ _ _ _ _ _ _ _ _ _

end Go.Proofs.YtddageahmgaigaaGreat
