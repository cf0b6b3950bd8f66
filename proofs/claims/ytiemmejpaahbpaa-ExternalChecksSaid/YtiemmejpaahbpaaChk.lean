/-
  routingref23.Check, of summaries, boundaries and external advertisements.
-/
import Derived.Test.YtiemmejpaahbpaaUnu
namespace Go.Proofs.Ytiemmejpaahbpaa
open Go.RowKit

theorem blk15 {w : World} {b : Nat} {c0 c1 c2 c3 c4 c5 c6 c7 c8 c9 c10 c11 c12 c13 c14 : Value} {t : TypeId} (h : w.heap[b]? = some (.cells #[c0, c1, c2, c3, c4, c5, c6, c7, c8, c9, c10, c11, c12, c13, c14] t (0, 0))) :
    ((w.cell? ⟨b, 0, none⟩ = some c0 ∧ w.cell? ⟨b, 1, none⟩ = some c1 ∧ w.cell? ⟨b, 2, none⟩ = some c2 ∧ w.cell? ⟨b, 3, none⟩ = some c3 ∧ w.cell? ⟨b, 4, none⟩ = some c4) ∧ (w.cell? ⟨b, 5, none⟩ = some c5 ∧ w.cell? ⟨b, 6, none⟩ = some c6 ∧ w.cell? ⟨b, 7, none⟩ = some c7 ∧ w.cell? ⟨b, 8, none⟩ = some c8 ∧ w.cell? ⟨b, 9, none⟩ = some c9) ∧ (w.cell? ⟨b, 10, none⟩ = some c10 ∧ w.cell? ⟨b, 11, none⟩ = some c11 ∧ w.cell? ⟨b, 12, none⟩ = some c12 ∧ w.cell? ⟨b, 13, none⟩ = some c13 ∧ w.cell? ⟨b, 14, none⟩ = some c14)) ∧ ∀ i, w.frozen? ⟨b, i, none⟩ = false :=
  ⟨⟨⟨blk_cell h rfl, blk_cell h rfl, blk_cell h rfl, blk_cell h rfl, blk_cell h rfl⟩, ⟨blk_cell h rfl, blk_cell h rfl, blk_cell h rfl, blk_cell h rfl, blk_cell h rfl⟩, ⟨blk_cell h rfl, blk_cell h rfl, blk_cell h rfl, blk_cell h rfl, blk_cell h rfl⟩⟩, blk_free h⟩

/-- the error of an advertisement that is no router's and no network's -/
def chkP (x : Lsa) : Int :=
  if headP x.typ x.id x.len x.router x.seq x.age x.sum ≠ 0 then headP x.typ x.id x.len x.router x.seq x.age x.sum
  else if unusedP x = false then 1 else if withinB x.cost 0 16777216 = false ∨ withinB x.tag 0 4294967295 = false then 5 else 0

set_option maxHeartbeats 4000000 in
theorem check_calls (x : Lsa) (ok : OkL x) (h1 : ¬ x.typ = 1) (h2 : ¬ x.typ = 2) (w : World) : Calls Try.prog 30 #[.agg (lsaE x).toArray] w (HeadPost w (chkP x)) := by
  have HC := Lib.hid (fun W => head_calls x.typ x.id x.len x.router x.seq x.age x.sum ok.id0 ok.id1 W)
  have UC := Lib.hid (fun W => unused_calls x W)
  have WC := Lib.hid (fun W => within_calls x.cost 0 16777216 W)
  have WT := Lib.hid (fun W => within_calls x.tag 0 4294967295 W)
  unfold chkP
  generalize headP x.typ x.id x.len x.router x.seq x.age x.sum = h at *
  generalize unusedP x = u at *
  generalize withinB x.cost 0 16777216 = wc at *
  generalize withinB x.tag 0 4294967295 = wt at *
  have t1 : (x.typ == 1) = false := by simpa using h1
  have t2 : (x.typ == 2) = false := by simpa using h2
  clear h1 h2 ok
  obtain ⟨typ, id, len, router, seq, age, sum, border, boundary, la, ln, lc, aa, an, ac, cost, second, fwd, tag⟩ := x
  simp only [lsaE, hdE] at *
  by_cases hh : h = 0
  · subst hh
    have hne : ¬ (0 : Int) ≠ 0 := by simp
    rw [if_neg hne]
    clear hne
    generalize hQ : (if u = false then (1 : Int) else if wc = false ∨ wt = false then 5 else 0) = q
    have HQ := Lib.hid hQ
    clear hQ
    go_enter Try.func30, Try.ntmps30
    go_wp2_with fail
    refine (HC.out _).mono ?_
    rintro e w1 ⟨rfl, G1⟩
    have b1 := (G1.b.block w.heap.size (by simp)).trans (alloc_new w _)
    obtain ⟨⟨⟨e0, e1, e2, e3, e4⟩, ⟨e5, e6, e7, e8, e9⟩, ⟨e10, e11, e12, e13, e14⟩⟩, -⟩ := blk15 b1
    have BB1 := Lib.hid b1
    have GG1 : Gr w w1 := ((Gr.refl _).alloc _).trans G1
    clear b1 G1 HC
    go_wp2_with fail
    refine (UC.out _).mono ?_
    rintro e w2 ⟨rfl, G2⟩
    have b2 := (G2.b.block w.heap.size (blk_lt BB1.out)).trans BB1.out
    have GG2 := GG1.trans G2
    clear e0 e1 e2 e3 e4 e5 e6 e7 e8 e9 e10 e11 e12 e13 e14 G2 GG1 BB1
    obtain ⟨⟨⟨e0, e1, e2, e3, e4⟩, ⟨e5, e6, e7, e8, e9⟩, ⟨e10, e11, e12, e13, e14⟩⟩, -⟩ := blk15 b2
    clear b2 UC
    cases u with
    | false =>
      go_wp2_with fail
      go_ret
      exact ⟨by rw [← HQ.out]; rfl, GG2⟩
    | true =>
      cases wc with
      | false =>
        go_wp2_with (go_at_call 49; refine (WC.out _).mono ?_; rintro e w' ⟨rfl, rfl⟩)
        go_ret
        exact ⟨by rw [← HQ.out]; rfl, GG2⟩
      | true =>
        cases wt with
        | false =>
          go_wp2_with (first | (go_at_call 49; ((with_reducible refine (WC.out _).mono ?_)); rintro e w' ⟨rfl, rfl⟩) | (go_at_call 49; ((with_reducible refine (WT.out _).mono ?_)); rintro e w' ⟨rfl, rfl⟩))
          go_ret
          exact ⟨by rw [← HQ.out]; rfl, GG2⟩
        | true =>
          go_wp2_with (first | (go_at_call 49; ((with_reducible refine (WC.out _).mono ?_)); rintro e w' ⟨rfl, rfl⟩) | (go_at_call 49; ((with_reducible refine (WT.out _).mono ?_)); rintro e w' ⟨rfl, rfl⟩))
          go_ret
          exact ⟨by rw [← HQ.out]; rfl, GG2⟩
  · have d1 : (h == 0) = false := by simpa using hh
    have d2 : (h != 0) = true := by simpa using hh
    rw [if_pos hh]
    clear hh
    go_enter Try.func30, Try.ntmps30
    go_wp2_with fail
    refine (HC.out _).mono ?_
    rintro e w1 ⟨rfl, G1⟩
    go_wp2_with fail
    go_ret
    exact ⟨rfl, ((Gr.refl _).alloc _).trans G1⟩

end Go.Proofs.Ytiemmejpaahbpaa
