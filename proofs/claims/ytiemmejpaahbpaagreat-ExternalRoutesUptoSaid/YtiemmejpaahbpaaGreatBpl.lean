/-
  No offer is preferred to the table's entry: plain.
-/
import Derived.Test.YtiemmejpaahbpaaGreatFin
import Derived.Test.YtiemmejpaahbpaaGreatRef
import Derived.Test.YtiemmejpaahbpaaGreatRfp
namespace Go.Proofs.YtiemmejpaahbpaaGreat
open Go.RowKit

theorem rpCmp_anti (a b : Rp) : rpCmp b a = - rpCmp a b := rtCmp_anti _ _
theorem rpCmp_trans {a b c : Rp} (h1 : rpCmp a b ≤ 0) (h2 : rpCmp b c ≤ 0) : rpCmp a c ≤ 0 := rtCmp_trans _ _ _ h1 h2
theorem rpCmp_hops (a b : Rp) (h : List Ls.Hop) : rpCmp a { b with hops := h } = rpCmp a b := rfl
theorem rpCmp_self (a : Rp) : rpCmp a a = 0 := by have := rpCmp_anti a a; omega
theorem rpCmp_rt (a b : Rp) (x y z : Nat) (p q : Option Addr) (z' : Nat) : rtCmp (a.rt p x y) (b.rt q z z') = rpCmp a b := rfl

/-- the table's entry at o's prefix is not behind o -/
def NoBet (o : Rp) (g : Tab) : Prop := ∃ r, g o.pfx = some r ∧ 0 ≤ rpCmp o r

theorem NoBet.step {o : Rp} {g : Tab} (h : NoBet o g) (r : Rp) : NoBet o (tabAdd g r) := by
  obtain ⟨x, hx, hc⟩ := h
  unfold NoBet tabAdd
  by_cases hp : o.pfx = r.pfx
  · rw [hp] at hx
    rw [hx]
    simp only
    by_cases c : rpCmp r x < 0
    · rw [if_pos c]
      refine ⟨r, by unfold upd; rw [if_pos hp], ?_⟩
      have h1 := rpCmp_anti o x
      have h2 := rpCmp_anti r x
      have h3 := rpCmp_anti o r
      have := rpCmp_trans (a := r) (b := x) (c := o) (by omega) (by omega)
      omega
    · rw [if_neg c]
      by_cases c2 : rpCmp r x = 0
      · rw [if_pos c2]
        exact ⟨{ x with hops := Ls.merge Ls.hopLt x.hops r.hops }, by unfold upd; rw [if_pos hp], hc⟩
      · rw [if_neg c2]
        exact ⟨x, by rw [hp]; exact hx, hc⟩
  · have e : ∀ y, upd g r.pfx y o.pfx = g o.pfx := fun y => by unfold upd; rw [if_neg hp]
    cases hg : g r.pfx with
    | none => exact ⟨x, by simp only; rw [e]; exact hx, hc⟩
    | some old =>
      refine ⟨x, ?_, hc⟩
      simp only
      by_cases c : rpCmp r old < 0
      · rw [if_pos c, e]; exact hx
      · rw [if_neg c]
        by_cases c2 : rpCmp r old = 0
        · rw [if_pos c2, e]; exact hx
        · rw [if_neg c2]; exact hx

theorem NoBet.self (r : Rp) (g : Tab) : NoBet r (tabAdd g r) := by
  unfold NoBet tabAdd
  have up : ∀ y, upd g r.pfx y r.pfx = some y := fun y => by unfold upd; rw [if_pos rfl]
  cases hg : g r.pfx with
  | none => exact ⟨r, by simp only; exact up r, by rw [rpCmp_self]; exact Int.le_refl _⟩
  | some old =>
    by_cases c : rpCmp r old < 0
    · exact ⟨r, by simp only; rw [if_pos c]; exact up r, by rw [rpCmp_self]; exact Int.le_refl _⟩
    · by_cases c2 : rpCmp r old = 0
      · exact ⟨{ old with hops := Ls.merge Ls.hopLt old.hops r.hops }, by simp only; rw [if_neg c, if_pos c2]; exact up _, by rw [rpCmp_hops, c2]; exact Int.le_refl _⟩
      · exact ⟨old, by simp only; rw [if_neg c, if_neg c2]; exact hg, by omega⟩

theorem NoBet.fold {o : Rp} (router : Int) (reach : List Rch) (inner : List RtH) (l : List Lsa) : ∀ g, NoBet o g → NoBet o (l.foldl (tabStep router reach inner) g) := by
  induction l with
  | nil => intro g h; exact h
  | cons x l ih =>
    intro g h
    refine ih _ ?_
    unfold tabStep
    split
    · exact h.step _
    · exact h

/-- an offer's prefix has an entry that is not behind it -/
theorem tabOf_best (router : Int) (reach : List Rch) (inner : List RtH) (db : List Lsa) {x : Lsa} (hx : x ∈ db) (h : (offK router x && offOk x reach inner) = true) : NoBet (offR x reach inner) (tabOf router reach inner db) := by
  obtain ⟨a, b, rfl⟩ := List.append_of_mem hx
  unfold tabOf
  rw [List.foldl_append, List.foldl_cons]
  refine NoBet.fold _ _ _ _ _ ?_
  unfold tabStep
  rw [if_pos h]
  exact NoBet.self _ _

theorem rfWay_cost (x : Lsa) (reach : List Rch) (inner : List RtH) (h : ∀ y ∈ inner, validP y.rt.pfx = true) (hc : ∀ y ∈ reach, costFine y.cost) (h2 : ∀ y ∈ inner, costFine y.rt.cost) : costFine (rfWay x reach inner).1 := by
  have w1 := rwAll_way x.router reach
  have w2 := offWay_cost x reach inner hc h2
  obtain ⟨e1, e2⟩ := rfWay_eq x reach inner h
  cases hf : (offWay x reach inner).2.2 with
  | true => rw [(e2 hf).1]; exact w2
  | false =>
    unfold rfWay
    split
    · rename_i c
      rw [towO_look x.fwd inner h _ (Nat.le_refl _)]
      cases hl : lookO x.fwd inner inner.length with
      | none => exact ⟨Int.le_refl _, by show (0 : Int) ≤ 1099511627776; omega⟩
      | some j =>
        rw [offWay, if_pos ⟨w1.1 ▸ c.1, c.2⟩] at hf
        simp only at hf
        rw [hl] at hf
        cases hf
    · rw [w1.2.1]; exact wayP_cost _ _ hc

end Go.Proofs.YtiemmejpaahbpaaGreat
