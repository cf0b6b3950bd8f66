/-
  InterRanges in plain words: a route that a range takes has no summary of its own.
-/
import Derived.Test.YtogdconliofblaaGreatBkp
import Derived.Test.YtogdconliofblaaGreatOth
namespace Go.Proofs.YtogdconliofblaaGreat
open Go.RowKit

theorem covB_T {g : Arg} {r : Rt} (hg : validP g.pfx = true) (hr : validP r.pfx = true) : covB g r = covT g r := by
  unfold covB covT pcovB containsP cv33
  rw [hg, hr, Bool.true_and, Bool.true_and]
  congr 2
  by_cases h : r.area = g.area
  · rw [decide_eq_true h, decide_eq_true h.symm]
  · rw [decide_eq_false h, decide_eq_false fun e => h e.symm]

theorem tkK_none {l : List Arg} {r : Rt} : ∀ k, tkK l r k = none → ∀ i, i < k → covT (argAt l i) r = false
  | 0, _, i, hi => absurd hi (by omega)
  | k + 1, h, i, hi => by
    have hk : covT (argAt l k) r = false := by
      cases e : covT (argAt l k) r with
      | false => rfl
      | true =>
        cases e2 : tkK l r k with
        | none => rw [tkK_new e e2] at h; cases h
        | some j =>
          by_cases e3 : (argAt l j).pfx.len < (argAt l k).pfx.len
          · rw [tkK_lon e e2 e3] at h; cases h
          · rw [tkK_old e e2 e3] at h; cases h
    rw [tkK_off hk] at h
    rcases Nat.lt_or_ge i k with h' | h'
    · exact tkK_none k h i h'
    · rw [show i = k from by omega]; exact hk

theorem tkK_max {l : List Arg} {r : Rt} : ∀ k j, tkK l r k = some j → covT (argAt l j) r = true ∧ ∀ i, i < k → covT (argAt l i) r = true → (argAt l i).pfx.len ≤ (argAt l j).pfx.len
  | 0, j, h => by cases h
  | k + 1, j, h => by
    cases e : covT (argAt l k) r with
    | false =>
      rw [tkK_off e] at h
      obtain ⟨h1, h2⟩ := tkK_max k j h
      refine ⟨h1, fun i hi hc => ?_⟩
      rcases Nat.lt_or_ge i k with h' | h'
      · exact h2 i h' hc
      · rw [show i = k from by omega, e] at hc; cases hc
    | true =>
      cases e2 : tkK l r k with
      | none =>
        rw [tkK_new e e2] at h
        cases h
        refine ⟨e, fun i hi hc => ?_⟩
        rcases Nat.lt_or_ge i k with h' | h'
        · rw [tkK_none k e2 i h'] at hc; cases hc
        · rw [show i = k from by omega]; exact Int.le_refl _
      | some m =>
        obtain ⟨h1, h2⟩ := tkK_max k m e2
        by_cases e3 : (argAt l m).pfx.len < (argAt l k).pfx.len
        · rw [tkK_lon e e2 e3] at h
          cases h
          refine ⟨e, fun i hi hc => ?_⟩
          rcases Nat.lt_or_ge i k with h' | h'
          · have := h2 i h' hc; omega
          · rw [show i = k from by omega]; exact Int.le_refl _
        · rw [tkK_old e e2 e3] at h
          cases h
          refine ⟨h1, fun i hi hc => ?_⟩
          rcases Nat.lt_or_ge i k with h' | h'
          · exact h2 i h' hc
          · rw [show i = k from by omega]; omega

theorem rngK_taken (l : List Arg) (r : Rt) (q : Int → Option Int) : ∀ k i, i < k → takB l (argAt l i) r = true → (rngK l r q k).1 = true
  | k + 1, i, hi, h => by
    unfold rngK
    by_cases c : takB l (argAt l k) r = true
    · rw [if_pos c]
    · rw [if_neg c]
      rcases Nat.lt_or_ge i k with h' | h'
      · exact rngK_taken l r q k i h' h
      · rw [show i = k from by omega] at h; exact absurd h c

/-- a route that no range takes in the program's words is taken by none in the document's -/
theorem taken_not {l : List Arg} {r : Rt} {q : Int → Option Int} (hl : ∀ o ∈ l, validP o.pfx = true) (hr : validP r.pfx = true) (h : (rngK l r q l.length).1 = false) : tkK l r l.length = none := by
  cases e : tkK l r l.length with
  | none => rfl
  | some j =>
    obtain ⟨h1, h2⟩ := tkK_max _ _ e
    have hj := tkK_lt _ _ _ _ e
    have hv : ∀ i, i < l.length → validP (argAt l i).pfx = true := fun i hi => by rw [argAt_eq hi]; exact hl _ (List.getElem_mem hi)
    have : takB l (argAt l j) r = true := by
      unfold takB
      rw [covB_T (hv j hj) hr, h1, Bool.true_and, Bool.not_eq_true', List.any_eq_false]
      intro o ho
      obtain ⟨i, hi, rfl⟩ := List.getElem_of_mem ho
      have h3 := h2 i hi
      rw [← argAt_eq hi]
      unfold lonB
      rw [covB_T (hv i hi) hr]
      cases e4 : covT (argAt l i) r with
      | false => simp
      | true => have := h3 e4; simp; omega
    rw [rngK_taken l r q _ j hj this] at h
    cases h

theorem tkK_intra {l : List Arg} {r : Rt} (h : r.proto ≠ 3) : ∀ k, tkK l r k = none
  | 0 => rfl
  | k + 1 => by
    have : covT (argAt l k) r = false := by simp [covT, h]
    rw [tkK_off this]; exact tkK_intra h k

theorem leastF_src {f : Ls.Pfx → Option Int} {x p : Ls.Pfx} {c d : Int} (h : leastF f x c p = some d) : p = x ∨ f p = some d := by
  cases e : f x with
  | none =>
    rw [leastF_none e] at h
    unfold upd at h
    split at h
    · rename_i e2; exact .inl e2
    · exact .inr h
  | some old =>
    by_cases c0 : c < old
    · rw [leastF_lt e c0] at h
      unfold upd at h
      split at h
      · rename_i e2; exact .inl e2
      · exact .inr h
    · rw [leastF_ge e c0] at h; exact .inr h

theorem sumK_src (l : List Arg) (into : Int) (rs : List RtH) {p : Ls.Pfx} {c : Int} (h : (sumK l into rs rs.length).1 p = some c) : ∃ y ∈ rs, y.rt.pfx = p ∧ ∃ q, ownB into y.rt (rngK l y.rt q l.length).1 = true := by
  rw [sumK_all] at h
  have key : ∀ (m : List RtH) (s : SmS), ((m.map RtH.rt).foldl (sumOne l into) s).1 p = some c → s.1 p = some c ∨ ∃ y ∈ m, y.rt.pfx = p ∧ ∃ q, ownB into y.rt (rngK l y.rt q l.length).1 = true := by
    intro m
    induction m with
    | nil => intro s h; exact .inl h
    | cons y m ih =>
      intro s h
      rw [List.map_cons, List.foldl_cons] at h
      rcases ih _ h with h1 | ⟨z, hz, h2⟩
      · unfold sumOne at h1
        split at h1
        · simp only at h1
          split at h1
          · rename_i ho
            rcases leastF_src h1 with e | e
            · exact .inr ⟨y, by simp, e.symm, _, ho⟩
            · exact .inl e
          · exact .inl h1
        · exact .inl h1
      · exact .inr ⟨z, List.mem_cons_of_mem _ hz, h2⟩
  rcases key rs _ h with h1 | h1
  · cases h1
  · exact h1

theorem ranges_none {C : Cfg} {lr : List Arg} {into : Int} {rs : List RtH} {L : List Lsa} (F : LFine lr rs) (h : SuIs C lr into rs [] L) {p : Ls.Pfx} (ho : othB lr rs p = false) : ∀ x ∈ L, lkOf x ≠ ⟨3, p.addr, p.len, C.router⟩ := by
  intro x hx e
  obtain ⟨asc, g, hg, hm⟩ := h
  unfold othB at ho
  rw [Bool.or_eq_false_iff, List.any_eq_false, List.any_eq_false] at ho
  obtain ⟨o1, o2⟩ := ho
  rcases (hm x).1 hx with ⟨q, c, _, h1, rfl⟩ | ⟨r, c, _, h1, rfl⟩
  · have eq : q = p := by
      obtain ⟨qa, ql⟩ := q
      obtain ⟨pa, pl⟩ := p
      simp [lkOf, sumL] at e
      obtain ⟨rfl, rfl⟩ := e
      rfl
    subst eq
    rcases ((hg q).2 c h1).1 with h2 | ⟨i, hi, _, _, h2, _⟩
    · obtain ⟨y, hy, hp, z, hown⟩ := sumK_src lr into rs h2
      have h3 := o2 y hy
      have h4 : tkK lr y.rt lr.length = none := by
        by_cases h5 : y.rt.proto = 3
        · refine taken_not F.2.2.1.1 (F.2.2.2 y hy) (q := z) ?_
          cases e6 : (rngK lr y.rt z lr.length).1 with
          | false => rfl
          | true => rw [e6] at hown; simp [ownB, h5] at hown
        · exact tkK_intra h5 _
      rw [hp, h4] at h3
      simp at h3
    · have h3 := o1 (argAt lr i) (by rw [argAt_eq hi]; exact List.getElem_mem hi)
      rw [h2] at h3
      simp at h3
  · simp [lkOf, bndL] at e

end Go.Proofs.YtogdconliofblaaGreat
