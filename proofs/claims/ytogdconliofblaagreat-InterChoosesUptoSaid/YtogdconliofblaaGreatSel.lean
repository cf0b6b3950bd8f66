/-
  routingref23: Sum, Copy, Seal of summaries, boundaries and external advertisements.
-/
/-
  routingref23.Copy.
-/
/-
  routingref23.Seal of valid summaries, boundaries and external advertisements.
-/
import Derived.Test.YtogdconliofblaaGreatFle
import Derived.Deep.DeepCutAuto
namespace Go.Proofs.YtogdconliofblaaGreat
open Go.RowKit

theorem BytesAt.drop2 {w : World} {g cap : Nat} {l : List Int} (h : BytesAt w (.slice (some ⟨g, 0, none⟩) l.length cap) l) (h2 : 2 < l.length) : BytesAt w (.slice (some ⟨g, 2, none⟩) (l.length - 2) (cap - 2)) (l.drop 2) := by
  obtain ⟨a, c, e, h1, h3, -, h5⟩ := h.get
  cases e
  obtain ⟨b, off, e, hb, hc⟩ := h5 (by omega)
  cases e
  refine ⟨_, cap - 2, by simp, by simp; omega, by unfold maxLen at *; omega, (fun h => by cases h), fun _ => ⟨g, 2, rfl, hb, fun i hi j u hu => ?_⟩⟩
  have hi' : i + 2 < l.length := by simp at hi; omega
  have := hc (i + 2) hi'
  simp only [List.getElem_map, byE, List.getElem_drop] at hu
  cases j with
  | zero =>
    simp at hu
    rw [← hu, show 2 + i * 1 + 0 = 0 + (i + 2) from by omega, this]
    simp [Nat.add_comm]
  | succ j => simp at hu

def SumPost (w : World) (e : Ending) (w' : World) : Prop := ∃ n : Int, e = .returned (.int .i64 n) ∧ Below w.heap.size w w'

set_option maxHeartbeats 2000000 in
set_option maxRecDepth 100000 in
theorem sum_calls (x : Lsa) (ok : OkL x) (oh : OkH x) (ht : x.typ = 3 ∨ x.typ = 4 ∨ x.typ = 5) (w : World) : Calls Tryz.prog 101 #[.agg (lsaE x).toArray] w (SumPost w) := by
  have BC := Lib.hid (fun W => bytes_calls x ok oh ht W)
  have BR := Lib.hid (bytesB_range x)
  have BL : 24 ≤ (bytesB x).length ∧ (bytesB x).length ≤ 33 := by rw [bytesB_len, bodyB_len]; split <;> omega
  clear ok oh ht
  generalize bytesB x = l at *
  obtain ⟨typ, id, len, router, seq, age, sum, border, boundary, la, ln, lc, aa, an, ac, cost, second, fwd, tag⟩ := x
  simp only [lsaE] at *
  go_enter Tryz.func101, Tryz.ntmps101
  go_wp2_with fail
  refine (BC.out _).mono ?_
  rintro e w1 ⟨v1, rfl, O1, B1⟩
  obtain ⟨g, cp, ev, g0, g1, g2, g3⟩ := own_shape O1 (by omega)
  subst ev
  have FC := Lib.hid (fletcher_calls w1 _ (l.drop 2) (O1.at.drop2 (by omega)) (fun b hb => BR.out b (List.mem_of_mem_drop hb)) (by simp; omega) (by simp; omega))
  have HB : Hid (Below w.heap.size w w1) := Lib.hid (((Below.refl _ _).alloc (Nat.le_refl _) _).trans (B1.mono (by simp)))
  have g3' : cp ≤ 9223372036854775807 := by unfold maxLen at g3; omega
  obtain ⟨b0, b1⟩ := BL
  clear O1 B1 BC BR g0 g1 g3
  generalize l.length = n at *
  go_wp2_with fail
  refine FC.out.mono ?_
  rintro e w2 ⟨r, b, rfl, B2⟩
  have FIN := Lib.hid (HB.out.trans (B2.mono HB.out.size))
  clear B2 FC HB
  go_wp2_with fail
  go_ret
  exact ⟨r, rfl, FIN.out⟩

/-- the store of a whole advertisement -/
def setLsa (W : World) (bb : Nat) (x : Lsa) : World := (((((((((((((((W.setCell ⟨bb, 0, none⟩ (.int .i64 x.typ)).setCell ⟨bb, 1, none⟩ (.int .u32 x.id)).setCell ⟨bb, 2, none⟩ (.int .i64 x.len)).setCell ⟨bb, 3, none⟩ (.int .u32 x.router)).setCell ⟨bb, 4, none⟩ (.int .i64 x.seq)).setCell ⟨bb, 5, none⟩ (.int .i64 x.age)).setCell ⟨bb, 6, none⟩ (.int .i64 x.sum)).setCell ⟨bb, 7, none⟩ (.bool x.border)).setCell ⟨bb, 8, none⟩ (.bool x.boundary)).setCell ⟨bb, 9, none⟩ (.slice x.la x.ln x.lc)).setCell ⟨bb, 10, none⟩ (.slice x.aa x.an x.ac)).setCell ⟨bb, 11, none⟩ (.int .i64 x.cost)).setCell ⟨bb, 12, none⟩ (.bool x.second)).setCell ⟨bb, 13, none⟩ (.int .u32 x.fwd)).setCell ⟨bb, 14, none⟩ (.int .i64 x.tag))
theorem setLsa_blk {W : World} {bb : Nat} {c0 c1 c2 c3 c4 c5 c6 c7 c8 c9 c10 c11 c12 c13 c14 : Value} (h : W.heap[bb]? = some (.cells #[c0, c1, c2, c3, c4, c5, c6, c7, c8, c9, c10, c11, c12, c13, c14] 47 (0, 0))) (x : Lsa) : (setLsa W bb x).heap[bb]? = some (.cells (lsaE x).toArray 47 (0, 0)) := by
  have h1 := (blk_set (blk_set (blk_set (blk_set (blk_set (blk_set (blk_set (blk_set (blk_set (blk_set (blk_set (blk_set (blk_set (blk_set (blk_set h 0 (.int .i64 x.typ)) 1 (.int .u32 x.id)) 2 (.int .i64 x.len)) 3 (.int .u32 x.router)) 4 (.int .i64 x.seq)) 5 (.int .i64 x.age)) 6 (.int .i64 x.sum)) 7 (.bool x.border)) 8 (.bool x.boundary)) 9 (.slice x.la x.ln x.lc)) 10 (.slice x.aa x.an x.ac)) 11 (.int .i64 x.cost)) 12 (.bool x.second)) 13 (.int .u32 x.fwd)) 14 (.int .i64 x.tag))
  simp only [List.setIfInBounds_toArray, List.set_cons_zero, List.set_cons_succ] at h1
  exact h1
theorem setLsa_below {B : Nat} {w W : World} {bb : Nat} (h : Below B w W) (hb : B ≤ bb) (x : Lsa) : Below B w (setLsa W bb x) := (((((((((((((((h.setCell hb _).setCell hb _).setCell hb _).setCell hb _).setCell hb _).setCell hb _).setCell hb _).setCell hb _).setCell hb _).setCell hb _).setCell hb _).setCell hb _).setCell hb _).setCell hb _).setCell hb _)

end Go.Proofs.YtogdconliofblaaGreat

namespace Go.Proofs.YtogdconliofblaaGreat
open Go.RowKit

theorem Tryz.infoLink : (Tryz.prog.info? 161).map (fun i => (i.zero, i.size, i.bytes)) = some (some (.agg #[.int .i64 0, .int .u32 0, .int .u32 0, .int .i64 0]), 4, 24) := by kernel_rfl
theorem Tryz.infoU32 : (Tryz.prog.info? 22).map (fun i => (i.zero, i.size, i.bytes)) = some (some (.int .u32 0), 1, 4) := by kernel_rfl

/-- no elements: a slice of length 0 -/
theorem own_zero {base : Nat} {w : World} {e : TypeId} {k : Nat} {v : Value} {xs : List Value} {n : Nat} (h : w.ownsRow base e k v n xs) (hn : n = 0) : ∃ a c, v = .slice a 0 c := by
  subst hn
  rcases own_cases h with ⟨rfl, _⟩ | ⟨g, cap, cur, rfl, _⟩
  · exact ⟨_, _, rfl⟩
  · exact ⟨_, _, rfl⟩
theorem made_zero (W : World) (e : TypeId) (k : Nat) : (W.alloc (.cells #[] e)).ownsRow W.heap.size e k (.slice (some ⟨W.heap.size, 0, none⟩) 0 0) 0 [] :=
  World.ownsRow_made W #[] 0 (Nat.le_refl _) (by unfold maxLen; omega) (by simp)

/-- the lists of an advertisement are empty -/
structure NoLists (w : World) (x : Lsa) : Prop where
  l : SlV 4 w (.slice x.la x.ln x.lc) []
  a : SlV 1 w (.slice x.aa x.an x.ac) []

theorem NoLists.below {w w' : World} {x : Lsa} (h : NoLists w x) (hb : Below w.heap.size w w') : NoLists w' x := ⟨h.l.below hb, h.a.below hb⟩

def CopyPost (w : World) (x : Lsa) (e : Ending) (w' : World) : Prop := ∃ la lc aa ac, e = .returned (.agg (lsaE { x with la := la, ln := 0, lc := lc, aa := aa, an := 0, ac := ac }).toArray) ∧ Below w.heap.size w w'

set_option maxHeartbeats 4000000 in
set_option maxRecDepth 100000 in
theorem copy_calls (x : Lsa) (w : World) (hx : NoLists w x) : Calls Tryz.prog 102 #[.agg (lsaE x).toArray] w (CopyPost w x) := by
  obtain ⟨i0, hi0, hz0, hz1, hz2⟩ := info_parts Tryz.infoLink
  have HI0 := Lib.hid hi0
  have HZ0 := Lib.hid hz0
  have HZ1 := Lib.hid hz1
  have HZ2 := Lib.hid hz2
  obtain ⟨j0, hj0, hy0, hy1, hy2⟩ := info_parts Tryz.infoU32
  have HJ0 := Lib.hid hj0
  have HY0 := Lib.hid hy0
  have HY1 := Lib.hid hy1
  have HY2 := Lib.hid hy2
  clear hi0 hz0 hz1 hz2 hj0 hy0 hy1 hy2
  obtain ⟨typ, id, len, router, seq, age, sum, border, boundary, la, ln, lc, aa, an, ac, cost, second, fwd, tag⟩ := x
  obtain ⟨NL, NA⟩ := hx
  simp only [lsaE] at *
  obtain ⟨W0, hW0⟩ : ∃ W0, (w.alloc (.cells #[.int .i64 typ, .int .u32 id, .int .i64 len, .int .u32 router, .int .i64 seq, .int .i64 age, .int .i64 sum, .bool border, .bool boundary, .slice la ln lc, .slice aa an ac, .int .i64 cost, .bool second, .int .u32 fwd, .int .i64 tag] 47)).alloc (.cells #[.int .i64 0, .int .u32 0, .int .i64 0, .int .u32 0, .int .i64 0, .int .i64 0, .int .i64 0, .bool false, .bool false, .slice none 0 0, .slice none 0 0, .int .i64 0, .bool false, .int .u32 0, .int .i64 0] 47) = W0 := ⟨_, rfl⟩
  have hs0 : W0.heap.size = w.heap.size + 2 := by rw [← hW0]; simp
  have B0 : Below w.heap.size w W0 := by rw [← hW0]; exact ((Below.refl _ _).alloc (Nat.le_refl _) _).alloc (by simp) _
  have bx : W0.heap[w.heap.size]? = some (.cells #[.int .i64 typ, .int .u32 id, .int .i64 len, .int .u32 router, .int .i64 seq, .int .i64 age, .int .i64 sum, .bool border, .bool boundary, .slice la ln lc, .slice aa an ac, .int .i64 cost, .bool second, .int .u32 fwd, .int .i64 tag] 47 (0, 0)) := by rw [← hW0]; exact (alloc_get _ _ _ (by simp)).trans (alloc_new _ _)
  have bz : W0.heap[w.heap.size + 1]? = some (.cells #[.int .i64 0, .int .u32 0, .int .i64 0, .int .u32 0, .int .i64 0, .int .i64 0, .int .i64 0, .bool false, .bool false, .slice none 0 0, .slice none 0 0, .int .i64 0, .bool false, .int .u32 0, .int .i64 0] 47 (0, 0)) := by rw [← hW0]; exact blk_new2 w _ _
  obtain ⟨W1, hW1⟩ : ∃ W1, W0.alloc (.cells #[] 161) = W1 := ⟨_, rfl⟩
  have B1 : Below W0.heap.size W0 W1 := by rw [← hW1]; exact (Below.refl _ _).alloc (Nat.le_refl _) _
  have O1 : Hid (W1.ownsRow W0.heap.size 161 4 (.slice (some ⟨w.heap.size + 1 + 1, 0, none⟩) 0 0) 0 []) := Lib.hid (by
    have e : w.heap.size + 1 + 1 = W0.heap.size := hs0.symm
    rw [← hW1, e]; exact made_zero W0 _ _)
  have S1 := Lib.hid (NL.below (B0.trans (B1.mono B0.size)))
  have NAH := Lib.hid NA
  have K : Hid (0 + ([] : List (List Value)).length ≤ maxLen) := Lib.hid (by simp)
  have K24 : Hid ((0 + ([] : List (List Value)).length) * 24 ≤ 140737488355328) := Lib.hid (by simp)
  have K4 : Hid ((0 + ([] : List (List Value)).length) * 4 ≤ 140737488355328) := Lib.hid (by simp)
  have HS0 := Lib.hid hs0
  have HB0 := Lib.hid B0
  have HB1 := Lib.hid B1
  have HBX := Lib.hid bx
  have HBZ := Lib.hid bz
  have HW0 := Lib.hid hW0
  have HW1 := Lib.hid hW1
  clear NL NA hs0 B0 B1 bx bz hW0 hW1
  go_enter Tryz.func102, Tryz.ntmps102
  go_upto_region 2 with (at_builtin; rw [HW0.out, HW1.out]; refine wpList_append_sl rfl _ _ _ rfl W0.heap.size 161 i0 _ 4 24 Tryz.underlying43 HI0.out HZ0.out HZ1.out HZ2.out rfl (by decide) _ 0 [] rfl O1.out _ [] rfl S1.out (by simp) (by simp) K.out K24.out HB1.out.size ?_; intro v2 w2 O2 G2; have HB2 := Lib.hid (Below.owned HB1.out HB1.out.size O1.out G2); obtain ⟨a2, c2, ev⟩ := own_zero O2 (by simp); subst ev; clear O2 G2; have b2 := (HB2.out.block w.heap.size (by have := HS0.out; omega)).trans HBX.out; have B2X := Lib.hid b2; have f9 := blk_free b2 9; have e9 : w2.cell? ⟨w.heap.size, 9, none⟩ = some (.slice la ln lc) := blk_cell b2 rfl; clear b2)
  obtain ⟨w5, hw5⟩ : ∃ w5, w2.setCell ⟨w.heap.size, 9, none⟩ (.slice a2 0 c2) = w5 := ⟨_, rfl⟩
  have hw0 := HS0.out
  have hz2 : w5.heap.size = w2.heap.size := by rw [← hw5]; simp [World.setCell]
  have b5 : w5.heap[w.heap.size]? = some (.cells #[.int .i64 typ, .int .u32 id, .int .i64 len, .int .u32 router, .int .i64 seq, .int .i64 age, .int .i64 sum, .bool border, .bool boundary, .slice a2 0 c2, .slice aa an ac, .int .i64 cost, .bool second, .int .u32 fwd, .int .i64 tag] 47 (0, 0)) := by
    have h1 := blk_set B2X.out 9 (.slice a2 0 c2)
    simp only [List.setIfInBounds_toArray, List.set_cons_zero, List.set_cons_succ] at h1
    rw [← hw5]; exact h1
  have bz5 : w5.heap[w.heap.size + 1]? = some (.cells #[.int .i64 0, .int .u32 0, .int .i64 0, .int .u32 0, .int .i64 0, .int .i64 0, .int .i64 0, .bool false, .bool false, .slice none 0 0, .slice none 0 0, .int .i64 0, .bool false, .int .u32 0, .int .i64 0] 47 (0, 0)) := by
    rw [← hw5, blk_other _ _ _ _ (by simp)]
    exact (HB2.out.block (w.heap.size + 1) (by omega)).trans HBZ.out
  have B5 : Below w.heap.size w w5 := by rw [← hw5]; exact (HB0.out.trans (HB2.out.mono (by omega))).setCell (Nat.le_refl _) _
  obtain ⟨W6, hW6⟩ : ∃ W6, w5.alloc (.cells #[] 22) = W6 := ⟨_, rfl⟩
  have B6 : Below w5.heap.size w5 W6 := by rw [← hW6]; exact (Below.refl _ _).alloc (Nat.le_refl _) _
  have O6 : Hid (W6.ownsRow w5.heap.size 22 1 (.slice (some ⟨w2.heap.size, 0, none⟩) 0 0) 0 []) := Lib.hid (by
    rw [← hz2, ← hW6]; exact made_zero w5 _ _)
  have S6 := Lib.hid (NAH.out.below (B5.trans (B6.mono B5.size)))
  have HW5 := Lib.hid hw5
  have HW6 := Lib.hid hW6
  have HB5 := Lib.hid B5
  have HB6 := Lib.hid B6
  have HX5 := Lib.hid b5
  have HZ5 := Lib.hid bz5
  have e10 : w2.cell? ⟨w.heap.size, 10, none⟩ = some (.slice aa an ac) := blk_cell B2X.out rfl
  have lt2 : w.heap.size < w2.heap.size := blk_lt B2X.out
  have ne2 : ¬ w.heap.size = w2.heap.size := by omega
  have q10 : ((w2.setCell ⟨w.heap.size, 9, none⟩ (.slice a2 0 c2)).alloc (.cells #[] 22)).cell? ⟨w.heap.size, 10, none⟩ = some (.slice aa an ac) := by
    rw [hw5, hW6]; exact blk_cell ((B6.block w.heap.size (blk_lt b5)).trans b5) rfl
  clear b5 bz5 B5 B6 hw5 hW6 hz2 hw0
  go_upto_region 3 with (at_builtin; rw [HW5.out, HW6.out]; refine wpList_append_sl rfl _ _ _ rfl w5.heap.size 22 j0 _ 1 4 Tryz.underlying44 HJ0.out HY0.out HY1.out HY2.out rfl (by decide) _ 0 [] rfl O6.out _ [] rfl S6.out (by simp) (by simp) K.out K4.out HB6.out.size ?_; intro v7 w7 O7 G7; have HB7 := Lib.hid (Below.owned HB6.out HB6.out.size O6.out G7); obtain ⟨a7, c7, ev⟩ := own_zero O7 (by simp); subst ev; clear O7 G7; have b7 := (HB7.out.block w.heap.size (blk_lt HX5.out)).trans HX5.out; have B7X := Lib.hid b7; have f10 := blk_free b7 10; have e10 : w7.cell? ⟨w.heap.size, 10, none⟩ = some (.slice aa an ac) := blk_cell b7 rfl; clear b7)
  obtain ⟨w8, hw8⟩ : ∃ w8, w7.setCell ⟨w.heap.size, 10, none⟩ (.slice a7 0 c7) = w8 := ⟨_, rfl⟩
  have b8 : w8.heap[w.heap.size]? = some (.cells #[.int .i64 typ, .int .u32 id, .int .i64 len, .int .u32 router, .int .i64 seq, .int .i64 age, .int .i64 sum, .bool border, .bool boundary, .slice a2 0 c2, .slice a7 0 c7, .int .i64 cost, .bool second, .int .u32 fwd, .int .i64 tag] 47 (0, 0)) := by
    have h1 := blk_set B7X.out 10 (.slice a7 0 c7)
    simp only [List.setIfInBounds_toArray, List.set_cons_zero, List.set_cons_succ] at h1
    rw [← hw8]; exact h1
  have bz8 : w8.heap[w.heap.size + 1]? = some (.cells #[.int .i64 0, .int .u32 0, .int .i64 0, .int .u32 0, .int .i64 0, .int .i64 0, .int .i64 0, .bool false, .bool false, .slice none 0 0, .slice none 0 0, .int .i64 0, .bool false, .int .u32 0, .int .i64 0] 47 (0, 0)) := by
    rw [← hw8, blk_other _ _ _ _ (by simp)]
    exact (HB7.out.block (w.heap.size + 1) (blk_lt HZ5.out)).trans HZ5.out
  have B8 : Below w.heap.size w w8 := by rw [← hw8]; exact (HB5.out.trans (HB7.out.mono HB5.out.size)).setCell (Nat.le_refl _) _
  obtain ⟨W', hW'⟩ : ∃ W', setLsa w8 (w.heap.size + 1) ⟨typ, id, len, router, seq, age, sum, border, boundary, a2, 0, c2, a7, 0, c7, cost, second, fwd, tag⟩ = W' := ⟨_, rfl⟩
  have bk' : W'.heap[w.heap.size + 1]? = some (.cells #[.int .i64 typ, .int .u32 id, .int .i64 len, .int .u32 router, .int .i64 seq, .int .i64 age, .int .i64 sum, .bool border, .bool boundary, .slice a2 0 c2, .slice a7 0 c7, .int .i64 cost, .bool second, .int .u32 fwd, .int .i64 tag] 47 (0, 0)) := by rw [← hW']; exact setLsa_blk bz8 _
  have BW' : Below w.heap.size w W' := by rw [← hW']; exact setLsa_below B8 (Nat.le_succ _) _
  have FIN : Hid (CopyPost w ⟨typ, id, len, router, seq, age, sum, border, boundary, la, ln, lc, aa, an, ac, cost, second, fwd, tag⟩ (.returned (.agg #[.int .i64 typ, .int .u32 id, .int .i64 len, .int .u32 router, .int .i64 seq, .int .i64 age, .int .i64 sum, .bool border, .bool boundary, .slice a2 0 c2, .slice a7 0 c7, .int .i64 cost, .bool second, .int .u32 fwd, .int .i64 tag])) W') := Lib.hid ⟨a2, c2, a7, c7, rfl, BW'⟩
  unfold setLsa at hW'
  simp only at hW'
  have HW' := Lib.hid hW'
  have HW8 := Lib.hid hw8
  clear e10
  obtain ⟨⟨⟨e0, e1, e2, e3, e4⟩, ⟨e5, e6, e7, e8, e9⟩, ⟨e10, e11, e12, e13, e14⟩⟩, -⟩ := blk15 b8
  obtain ⟨⟨⟨z0, z1, z2, z3, z4⟩, ⟨z5, z6, z7, z8, z9⟩, ⟨z10, z11, z12, z13, z14⟩⟩, hfz⟩ := blk15 bz8
  have zf0 := hfz 0
  have zf1 := hfz 1
  have zf2 := hfz 2
  have zf3 := hfz 3
  have zf4 := hfz 4
  have zf5 := hfz 5
  have zf6 := hfz 6
  have zf7 := hfz 7
  have zf8 := hfz 8
  have zf9 := hfz 9
  have zf10 := hfz 10
  have zf11 := hfz 11
  have zf12 := hfz 12
  have zf13 := hfz 13
  have zf14 := hfz 14
  obtain ⟨⟨⟨g0, g1, g2, g3, g4⟩, ⟨g5, g6, g7, g8, g9⟩, ⟨g10, g11, g12, g13, g14⟩⟩, -⟩ := blk15 bk'
  have G := Lib.hid (And.intro g0 (And.intro g1 (And.intro g2 (And.intro g3 (And.intro g4 (And.intro g5 (And.intro g6 (And.intro g7 (And.intro g8 (And.intro g9 (And.intro g10 (And.intro g11 (And.intro g12 (And.intro g13 g14))))))))))))))
  clear f10 hw8 b8 bz8 B8 hW' bk' BW' hfz g0 g1 g2 g3 g4 g5 g6 g7 g8 g9 g10 g11 g12 g13 g14
  rw [HW8.out]
  go_wp2_with fail
  rw [HW'.out]
  obtain ⟨g0, g1, g2, g3, g4, g5, g6, g7, g8, g9, g10, g11, g12, g13, g14⟩ := G.out
  exact bodyPost_ret (v := .agg #[.int .i64 typ, .int .u32 id, .int .i64 len, .int .u32 router, .int .i64 seq, .int .i64 age, .int .i64 sum, .bool border, .bool boundary, .slice a2 0 c2, .slice a7 0 c7, .int .i64 cost, .bool second, .int .u32 fwd, .int .i64 tag]) (by simp [results, Tryz.results102, go_sem, g0, g1, g2, g3, g4, g5, g6, g7, g8, g9, g10, g11, g12, g13, g14]) rfl FIN.out

end Go.Proofs.YtogdconliofblaaGreat

namespace Go.Proofs.YtogdconliofblaaGreat
open Go.RowKit

def SealPost (w : World) (x : Lsa) (e : Ending) (w' : World) : Prop := ∃ s la lc aa ac, e = .returned (.tuple #[.agg (lsaE { x with sum := s, la := la, ln := 0, lc := lc, aa := aa, an := 0, ac := ac }).toArray, .int .i64 0]) ∧ Below w.heap.size w w'

set_option maxHeartbeats 4000000 in
set_option maxRecDepth 100000 in
theorem seal_calls (x : Lsa) (ok : OkL x) (oh : OkH x) (ht : x.typ = 3 ∨ x.typ = 4 ∨ x.typ = 5) (hc : chkP x = 0) (w : World) (hx : NoLists w x) : Calls Tryz.prog 72 #[.agg (lsaE x).toArray] w (SealPost w x) := by
  have CC := Lib.hid (fun W => check_calls x ok (by omega) (by omega) W)
  rw [hc] at CC
  have SC := Lib.hid (fun W => sum_calls x ok oh ht W)
  have HX := Lib.hid hx
  clear ok oh ht hc hx
  obtain ⟨typ, id, len, router, seq, age, sum, border, boundary, la, ln, lc, aa, an, ac, cost, second, fwd, tag⟩ := x
  have CP := Lib.hid (fun n W h => copy_calls ⟨typ, id, len, router, seq, age, n, border, boundary, la, ln, lc, aa, an, ac, cost, second, fwd, tag⟩ W h)
  simp only [lsaE] at *
  obtain ⟨W0, hW0⟩ : ∃ W0, (w.alloc (.cells #[.int .i64 typ, .int .u32 id, .int .i64 len, .int .u32 router, .int .i64 seq, .int .i64 age, .int .i64 sum, .bool border, .bool boundary, .slice la ln lc, .slice aa an ac, .int .i64 cost, .bool second, .int .u32 fwd, .int .i64 tag] 47)).alloc (.cells #[.int .i64 0, .int .u32 0, .int .i64 0, .int .u32 0, .int .i64 0, .int .i64 0, .int .i64 0, .bool false, .bool false, .slice none 0 0, .slice none 0 0, .int .i64 0, .bool false, .int .u32 0, .int .i64 0] 47) = W0 := ⟨_, rfl⟩
  have hs0 : W0.heap.size = w.heap.size + 2 := by rw [← hW0]; simp
  have B0 : Below w.heap.size w W0 := by rw [← hW0]; exact ((Below.refl _ _).alloc (Nat.le_refl _) _).alloc (by simp) _
  have bx : W0.heap[w.heap.size]? = some (.cells #[.int .i64 typ, .int .u32 id, .int .i64 len, .int .u32 router, .int .i64 seq, .int .i64 age, .int .i64 sum, .bool border, .bool boundary, .slice la ln lc, .slice aa an ac, .int .i64 cost, .bool second, .int .u32 fwd, .int .i64 tag] 47 (0, 0)) := by rw [← hW0]; exact (alloc_get _ _ _ (by simp)).trans (alloc_new _ _)
  have bz : W0.heap[w.heap.size + 1]? = some (.cells #[.int .i64 0, .int .u32 0, .int .i64 0, .int .u32 0, .int .i64 0, .int .i64 0, .int .i64 0, .bool false, .bool false, .slice none 0 0, .slice none 0 0, .int .i64 0, .bool false, .int .u32 0, .int .i64 0] 47 (0, 0)) := by rw [← hW0]; exact blk_new2 w _ _
  have HB0 := Lib.hid B0
  have HBX := Lib.hid bx
  have HBZ := Lib.hid bz
  have HW0 := Lib.hid hW0
  clear hs0 B0 bx bz hW0
  go_enter Tryz.func72, Tryz.ntmps72
  go_wp2_with fail
  rw [HW0.out]
  refine (CC.out _).mono ?_
  rintro e w1 ⟨rfl, G1⟩
  have b1 := (G1.b.block w.heap.size (blk_lt HBX.out)).trans HBX.out
  obtain ⟨⟨⟨e0, e1, e2, e3, e4⟩, ⟨e5, e6, e7, e8, e9⟩, ⟨e10, e11, e12, e13, e14⟩⟩, -⟩ := blk15 b1
  have HX1 := Lib.hid b1
  have HZ1 := Lib.hid ((G1.b.block (w.heap.size + 1) (blk_lt HBZ.out)).trans HBZ.out)
  have HB1 := Lib.hid (HB0.out.trans (G1.b.mono HB0.out.size))
  clear b1 G1 CC HB0 HBX HBZ HW0
  go_wp2_with fail
  refine (SC.out _).mono ?_
  rintro e w2 ⟨n, rfl, B2⟩
  have b2 := (B2.block w.heap.size (blk_lt HX1.out)).trans HX1.out
  have f6 := blk_free b2 6
  have HX2 := Lib.hid b2
  have HZ2 := Lib.hid ((B2.block (w.heap.size + 1) (blk_lt HZ1.out)).trans HZ1.out)
  have HB2 := Lib.hid (HB1.out.trans (B2.mono HB1.out.size))
  clear e0 e1 e2 e3 e4 e5 e6 e7 e8 e9 e10 e11 e12 e13 e14 SC HB1 HX1 HZ1 B2
  have e6 : w2.cell? ⟨w.heap.size, 6, none⟩ = some (.int .i64 sum) := blk_cell b2 rfl
  clear b2
  obtain ⟨w3, hw3⟩ : ∃ w3, w2.setCell ⟨w.heap.size, 6, none⟩ (.int .i64 n) = w3 := ⟨_, rfl⟩
  have b3 : w3.heap[w.heap.size]? = some (.cells #[.int .i64 typ, .int .u32 id, .int .i64 len, .int .u32 router, .int .i64 seq, .int .i64 age, .int .i64 n, .bool border, .bool boundary, .slice la ln lc, .slice aa an ac, .int .i64 cost, .bool second, .int .u32 fwd, .int .i64 tag] 47 (0, 0)) := by
    have h1 := blk_set HX2.out 6 (.int .i64 n)
    simp only [List.setIfInBounds_toArray, List.set_cons_zero, List.set_cons_succ] at h1
    rw [← hw3]; exact h1
  have bz3 : w3.heap[w.heap.size + 1]? = some (.cells #[.int .i64 0, .int .u32 0, .int .i64 0, .int .u32 0, .int .i64 0, .int .i64 0, .int .i64 0, .bool false, .bool false, .slice none 0 0, .slice none 0 0, .int .i64 0, .bool false, .int .u32 0, .int .i64 0] 47 (0, 0)) := by
    rw [← hw3, blk_other _ _ _ _ (by simp)]; exact HZ2.out
  have B3 : Below w.heap.size w w3 := by rw [← hw3]; exact HB2.out.setCell (Nat.le_refl _) _
  have C3 := Lib.hid (CP.out n w3 ⟨(HX.out.below B3).l, (HX.out.below B3).a⟩)
  have HB3 := Lib.hid B3
  have HZ3 := Lib.hid bz3
  have H3 := Lib.hid b3
  have HW3 := Lib.hid hw3
  clear b3 bz3 B3 hw3 HX2 HZ2 HB2
  go_upto_region 5 with fail
  rw [HW3.out]
  clear e6 f6
  obtain ⟨⟨⟨e0, e1, e2, e3, e4⟩, ⟨e5, e6, e7, e8, e9⟩, ⟨e10, e11, e12, e13, e14⟩⟩, -⟩ := blk15 H3.out
  go_wp2_with fail
  refine C3.out.mono ?_
  rintro e w4 ⟨a2, c2, a7, c7, rfl, B4⟩
  have bz4 := (B4.block (w.heap.size + 1) (blk_lt HZ3.out)).trans HZ3.out
  have B4' := HB3.out.trans (B4.mono HB3.out.size)
  obtain ⟨W', hW'⟩ : ∃ W', setLsa w4 (w.heap.size + 1) ⟨typ, id, len, router, seq, age, n, border, boundary, a2, 0, c2, a7, 0, c7, cost, second, fwd, tag⟩ = W' := ⟨_, rfl⟩
  have bk' : W'.heap[w.heap.size + 1]? = some (.cells #[.int .i64 typ, .int .u32 id, .int .i64 len, .int .u32 router, .int .i64 seq, .int .i64 age, .int .i64 n, .bool border, .bool boundary, .slice a2 0 c2, .slice a7 0 c7, .int .i64 cost, .bool second, .int .u32 fwd, .int .i64 tag] 47 (0, 0)) := by rw [← hW']; exact setLsa_blk bz4 _
  have BW' : Below w.heap.size w W' := by rw [← hW']; exact setLsa_below B4' (Nat.le_succ _) _
  have FIN : Hid (SealPost w ⟨typ, id, len, router, seq, age, sum, border, boundary, la, ln, lc, aa, an, ac, cost, second, fwd, tag⟩ (.returned (.tuple #[.agg #[.int .i64 typ, .int .u32 id, .int .i64 len, .int .u32 router, .int .i64 seq, .int .i64 age, .int .i64 n, .bool border, .bool boundary, .slice a2 0 c2, .slice a7 0 c7, .int .i64 cost, .bool second, .int .u32 fwd, .int .i64 tag], .int .i64 0])) W') := Lib.hid ⟨n, a2, c2, a7, c7, rfl, BW'⟩
  unfold setLsa at hW'
  simp only at hW'
  have HW' := Lib.hid hW'
  clear e0 e1 e2 e3 e4 e5 e6 e7 e8 e9 e10 e11 e12 e13 e14
  obtain ⟨⟨⟨z0, z1, z2, z3, z4⟩, ⟨z5, z6, z7, z8, z9⟩, ⟨z10, z11, z12, z13, z14⟩⟩, hfz⟩ := blk15 bz4
  have zf0 := hfz 0
  have zf1 := hfz 1
  have zf2 := hfz 2
  have zf3 := hfz 3
  have zf4 := hfz 4
  have zf5 := hfz 5
  have zf6 := hfz 6
  have zf7 := hfz 7
  have zf8 := hfz 8
  have zf9 := hfz 9
  have zf10 := hfz 10
  have zf11 := hfz 11
  have zf12 := hfz 12
  have zf13 := hfz 13
  have zf14 := hfz 14
  obtain ⟨⟨⟨g0, g1, g2, g3, g4⟩, ⟨g5, g6, g7, g8, g9⟩, ⟨g10, g11, g12, g13, g14⟩⟩, -⟩ := blk15 bk'
  have G := Lib.hid (And.intro g0 (And.intro g1 (And.intro g2 (And.intro g3 (And.intro g4 (And.intro g5 (And.intro g6 (And.intro g7 (And.intro g8 (And.intro g9 (And.intro g10 (And.intro g11 (And.intro g12 (And.intro g13 g14))))))))))))))
  clear bz4 B4 B4' hW' bk' BW' hfz g0 g1 g2 g3 g4 g5 g6 g7 g8 g9 g10 g11 g12 g13 g14 C3 HB3 HZ3 H3 HW3 CP
  simp only [lsaE]
  go_wp2_with fail
  rw [HW'.out]
  obtain ⟨g0, g1, g2, g3, g4, g5, g6, g7, g8, g9, g10, g11, g12, g13, g14⟩ := G.out
  exact bodyPost_ret (v := .tuple #[.agg #[.int .i64 typ, .int .u32 id, .int .i64 len, .int .u32 router, .int .i64 seq, .int .i64 age, .int .i64 n, .bool border, .bool boundary, .slice a2 0 c2, .slice a7 0 c7, .int .i64 cost, .bool second, .int .u32 fwd, .int .i64 tag], .int .i64 0]) (by simp [results, Tryz.results72, go_sem, g0, g1, g2, g3, g4, g5, g6, g7, g8, g9, g10, g11, g12, g13, g14]) rfl FIN.out

end Go.Proofs.YtogdconliofblaaGreat
