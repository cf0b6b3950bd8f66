/-
  InterBack in plain words: the routes that are left out change nothing.
-/
import Derived.Test.YtogdconliofblaaGreatSmy
namespace Go.Proofs.YtogdconliofblaaGreat
open Go.RowKit

def keptB (into : Int) (r : Rt) : Bool := !decide (r.area = into) && (!decide (into = 0) || decide (r.proto = 3))

theorem rngK_none (l : List Arg) (r : Rt) (q : Int → Option Int) (h : r.proto ≠ 3) : ∀ k, rngK l r q k = (false, q)
  | 0 => rfl
  | k + 1 => by
    unfold rngK
    have : takB l (argAt l k) r = false := by simp [takB, covB, h]
    rw [this, if_neg (by simp)]
    exact rngK_none l r q h k

theorem sumOne_skip (l : List Arg) (into : Int) (s : SmS) (r : Rt) (h : keptB into r = false) : sumOne l into s r = s := by
  unfold sumOne
  by_cases u : useB into r = true
  · rw [if_pos u]
    have hp : into = 0 ∧ r.proto ≠ 3 := by
      simp only [useB, Bool.and_eq_true, Bool.not_eq_true', decide_eq_false_iff_not] at u
      simp only [keptB, Bool.and_eq_false_iff, Bool.not_eq_false', decide_eq_true_eq, Bool.or_eq_false_iff, decide_eq_false_iff_not] at h
      rcases h with h | h
      · exact absurd h u.1
      · exact h
    rw [rngK_none l r s.2 hp.2]
    have ho : ownB into r false = false := by simp [ownB, hp.1, hp.2]
    simp only [ho, Bool.false_eq_true, if_false]
  · rw [if_neg u]

theorem sumK_all (l : List Arg) (into : Int) (rs : List RtH) : sumK l into rs rs.length = (rs.map RtH.rt).foldl (sumOne l into) (fun _ => none, fun _ => none) := by
  unfold sumK
  rw [List.take_of_length_le (by simp)]

theorem sumK_kept (l : List Arg) (into : Int) (rs : List RtH) : sumK l into (rs.filter fun y => keptB into y.rt) (rs.filter fun y => keptB into y.rt).length = sumK l into rs rs.length := by
  rw [sumK_all, sumK_all]
  generalize ((fun _ => none, fun _ => none) : SmS) = s
  induction rs generalizing s with
  | nil => rfl
  | cons r rs ih =>
    cases h : keptB into r.rt with
    | true =>
      rw [List.filter_cons_of_pos (by simpa using h), List.map_cons, List.map_cons, List.foldl_cons, List.foldl_cons]
      exact ih _
    | false =>
      rw [List.filter_cons_of_neg (by simp [h]), List.map_cons, List.foldl_cons, sumOne_skip _ _ _ _ h]
      exact ih _

theorem asc_eq {α : Type} {R : α → α → Prop} (irr : ∀ a, ¬ R a a) (tr : ∀ a b c, R a b → R b c → R a c) : ∀ L L' : List α, L.Pairwise R → L'.Pairwise R → (∀ x, x ∈ L ↔ x ∈ L') → L = L'
  | [], [], _, _, _ => rfl
  | [], y :: L', _, _, h => absurd ((h y).2 (by simp)) (by simp)
  | x :: L, [], _, _, h => absurd ((h x).1 (by simp)) (by simp)
  | x :: L, y :: L', h1, h2, h => by
    have hx := List.pairwise_cons.1 h1
    have hy := List.pairwise_cons.1 h2
    have e : x = y := by
      rcases List.mem_cons.1 ((h x).1 (by simp)) with e | e
      · exact e
      · rcases List.mem_cons.1 ((h y).2 (by simp)) with f | f
        · exact f.symm
        · exact absurd (tr _ _ _ (hx.1 y f) (hy.1 x e)) (irr x)
    subst e
    rw [asc_eq irr tr L L' hx.2 hy.2 fun z => ?_]
    constructor
    · intro hz
      rcases List.mem_cons.1 ((h z).1 (List.mem_cons_of_mem _ hz)) with e | e
      · subst e; exact absurd (hx.1 z hz) (irr z)
      · exact e
    · intro hz
      rcases List.mem_cons.1 ((h z).2 (List.mem_cons_of_mem _ hz)) with e | e
      · subst e; exact absurd (hy.1 z hz) (irr z)
      · exact e

theorem lk_irr (a : Lsa) : ¬ kkCmp (lkOf a) (lkOf a) < 0 := by rw [kk_neg]; omega
theorem lk_tr (a b c : Lsa) (h1 : kkCmp (lkOf a) (lkOf b) < 0) (h2 : kkCmp (lkOf b) (lkOf c) < 0) : kkCmp (lkOf a) (lkOf c) < 0 := by
  rw [kk_neg] at *; omega

theorem SuIs.one {C : Cfg} {lr : List Arg} {into : Int} {rs rs' : List RtH} {l : List Rch} {L L' : List Lsa} (h : SuIs C lr into rs l L) (h' : SuIs C lr into rs' l L') (e : sumK lr into rs rs.length = sumK lr into rs' rs'.length) : L = L' := by
  obtain ⟨asc, g, hg, hm⟩ := h
  obtain ⟨asc', g', hg', hm'⟩ := h'
  have : MinF (SumS lr into rs) g' := hg'.congr fun p c => by unfold SumS; rw [e]
  obtain rfl := hg.one this
  exact asc_eq lk_irr lk_tr L L' asc asc' fun x => by rw [hm, hm']

theorem SuIs.kept {C : Cfg} {lr : List Arg} {into : Int} {rs : List RtH} {l : List Rch} {L L' : List Lsa} (h : SuIs C lr into rs l L) (h' : SuIs C lr into (rs.filter fun y => keptB into y.rt) l L') : L = L' := h.one h' (sumK_kept lr into rs).symm

theorem SuIs.bare {C : Cfg} {lr : List Arg} {into : Int} {rs : List RtH} {l : List Rch} {L : List Lsa} (h : SuIs C lr into rs l L) : ∀ x ∈ L, x.ln = 0 ∧ x.an = 0 := by
  intro x hx
  obtain ⟨asc, g, hg, hm⟩ := h
  rcases (hm x).1 hx with ⟨p, c, _, _, rfl⟩ | ⟨r, c, _, _, rfl⟩ <;> exact ⟨rfl, rfl⟩

end Go.Proofs.YtogdconliofblaaGreat
