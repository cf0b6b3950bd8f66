/-
  The reference's routes in plain words, and that they are the table's.
-/
import Derived.Test.YtiemmejpaahbpaaGreatBpl
namespace Go.Proofs.YtiemmejpaahbpaaGreat
open Go.RowKit

def oAt (offs : List Rp) (k : Nat) : Rp := offs.getD k default
theorem oAt_eq {offs : List Rp} {k : Nat} (c : k < offs.length) : oAt offs k = offs[k] := by
  rw [oAt, List.getD_eq_getElem?_getD, List.getElem?_eq_getElem c]; rfl

/-- is offer k to be the best for p, when b was it? -/
def bstB (offs : List Rp) (p : Ls.Pfx) (b : Option Nat) (k : Nat) : Bool :=
  decide ((oAt offs k).pfx = p) && (match b with | none => true | some j => decide (rpCmp (oAt offs k) (oAt offs j) < 0))
def bst (offs : List Rp) (p : Ls.Pfx) : Nat → Option Nat
  | 0 => none
  | k + 1 => if bstB offs p (bst offs p k) k = true then some k else bst offs p k
def mhB (offs : List Rp) (p : Ls.Pfx) (j k : Nat) : Bool := decide ((oAt offs k).pfx = p) && decide (rpCmp (oAt offs k) (oAt offs j) = 0)
/-- the hops of the offers for p that equal offer j -/
def mh (offs : List Rp) (p : Ls.Pfx) (j : Nat) : Nat → List Ls.Hop
  | 0 => (oAt offs j).hops
  | k + 1 => if mhB offs p j k = true then Ls.merge Ls.hopLt (mh offs p j k) (oAt offs k).hops else mh offs p j k

def BInv (offs : List Rp) (p : Ls.Pfx) (k : Nat) (b : Option Nat) : Prop :=
  match b with
  | none => ∀ i, i < k → (oAt offs i).pfx ≠ p
  | some j => j < k ∧ (oAt offs j).pfx = p ∧ ∀ i, i < k → (oAt offs i).pfx = p → 0 ≤ rpCmp (oAt offs i) (oAt offs j)

theorem bst_inv (offs : List Rp) (p : Ls.Pfx) : ∀ k, BInv offs p k (bst offs p k) := by
  intro k
  induction k with
  | zero => intro i hi; omega
  | succ k ih =>
    rw [bst]
    by_cases hp : (oAt offs k).pfx = p
    · cases hb : bst offs p k with
      | none =>
        rw [hb] at ih
        rw [if_pos (by simp [bstB, hp])]
        refine ⟨by omega, hp, fun i hi hpi => ?_⟩
        rcases Nat.lt_succ_iff_lt_or_eq.1 hi with h | rfl
        · exact absurd hpi (ih i h)
        · rw [rpCmp_self]; exact Int.le_refl _
      | some j =>
        rw [hb] at ih
        obtain ⟨h1, h2, h3⟩ := ih
        by_cases c : rpCmp (oAt offs k) (oAt offs j) < 0
        · rw [if_pos (by simp [bstB, hp, c])]
          refine ⟨by omega, hp, fun i hi hpi => ?_⟩
          rcases Nat.lt_succ_iff_lt_or_eq.1 hi with h | rfl
          · have e1 := h3 i h hpi
            have e2 := rpCmp_anti (oAt offs i) (oAt offs j)
            have e3 := rpCmp_trans (a := oAt offs k) (b := oAt offs j) (c := oAt offs i) (by omega) (by omega)
            have e4 := rpCmp_anti (oAt offs k) (oAt offs i)
            omega
          · rw [rpCmp_self]; exact Int.le_refl _
        · rw [if_neg (by simp [bstB, hp, c])]
          refine ⟨by omega, h2, fun i hi hpi => ?_⟩
          rcases Nat.lt_succ_iff_lt_or_eq.1 hi with h | rfl
          · exact h3 i h hpi
          · omega
    · rw [if_neg (by simp [bstB, hp])]
      cases hb : bst offs p k with
      | none =>
        rw [hb] at ih
        intro i hi
        rcases Nat.lt_succ_iff_lt_or_eq.1 hi with h | rfl
        · exact ih i h
        · exact hp
      | some j =>
        rw [hb] at ih
        obtain ⟨h1, h2, h3⟩ := ih
        refine ⟨by omega, h2, fun i hi hpi => ?_⟩
        rcases Nat.lt_succ_iff_lt_or_eq.1 hi with h | rfl
        · exact h3 i h hpi
        · exact absurd hpi hp

theorem mh_own {offs : List Rp} {p : Ls.Pfx} {j k : Nat} (h : ∀ i, i < k → mhB offs p j i = false) : mh offs p j k = (oAt offs j).hops := by
  induction k with
  | zero => rfl
  | succ k ih =>
    rw [mh, if_neg (by rw [h k (by omega)]; exact Bool.false_ne_true)]
    exact ih fun i hi => h i (by omega)

theorem mh_self {offs : List Rp} {p : Ls.Pfx} {k : Nat} (hp : (oAt offs k).pfx = p) (hs : Ls.Asc Ls.hopLt (oAt offs k).hops) (h : ∀ i, i < k → mhB offs p k i = false) : mh offs p k (k + 1) = (oAt offs k).hops := by
  rw [mh, if_pos (by simp [mhB, hp, rpCmp_self]), mh_own h]
  exact (Ls.merge_eq Ls.hopLin hs fun x => by simp).symm

theorem tabAdd_at (g : Tab) (r : Rp) (p : Ls.Pfx) : tabAdd g r p = if r.pfx = p then (match g p with | none => some r | some old => if rpCmp r old < 0 then some r else if rpCmp r old = 0 then some { old with hops := Ls.merge Ls.hopLt old.hops r.hops } else some old) else g p := by
  have up : ∀ y, upd g r.pfx y p = if r.pfx = p then some y else g p := fun y => by
    unfold upd
    by_cases h : r.pfx = p
    · rw [if_pos h.symm, if_pos h]
    · rw [if_neg (fun e => h e.symm), if_neg h]
  unfold tabAdd
  by_cases h : r.pfx = p
  · subst h
    simp only [if_true]
    cases hg : g r.pfx with
    | none => simp only [up, if_true]
    | some old =>
      simp only
      by_cases c : rpCmp r old < 0
      · simp only [if_pos c, up, if_true]
      · by_cases c2 : rpCmp r old = 0
        · simp only [if_neg c, if_pos c2, up, if_true]
        · simp only [if_neg c, if_neg c2, hg]
  · rw [if_neg h]
    cases hg : g r.pfx with
    | none => simp only [up, if_neg h]
    | some old =>
      simp only
      by_cases c : rpCmp r old < 0
      · simp only [if_pos c, up, if_neg h]
      · by_cases c2 : rpCmp r old = 0
        · simp only [if_neg c, if_pos c2, up, if_neg h]
        · simp only [if_neg c, if_neg c2]

/-- the table behind k offers -/
def tK (offs : List Rp) (k : Nat) : Tab := (offs.take k).foldl tabAdd (fun _ => none)
theorem tK_succ (offs : List Rp) (k : Nat) (c : k < offs.length) : tK offs (k + 1) = tabAdd (tK offs k) (oAt offs k) := by
  unfold tK
  rw [List.take_succ_eq_append_getElem c, List.foldl_append, oAt_eq c]; rfl

theorem tK_eq (offs : List Rp) (hs : ∀ r ∈ offs, Ls.Asc Ls.hopLt r.hops) (p : Ls.Pfx) : ∀ k, k ≤ offs.length → tK offs k p = (bst offs p k).map fun j => { oAt offs j with hops := mh offs p j k } := by
  intro k
  induction k with
  | zero => intro _; rfl
  | succ k ih =>
    intro c
    have ih := ih (by omega)
    have B := bst_inv offs p k
    have ha : Ls.Asc Ls.hopLt (oAt offs k).hops := by rw [oAt_eq (by omega)]; exact hs _ (List.getElem_mem _)
    rw [tK_succ offs k (by omega), tabAdd_at, ih, bst]
    by_cases hp : (oAt offs k).pfx = p
    · rw [if_pos hp]
      cases hb : bst offs p k with
      | none =>
        rw [hb] at B
        rw [if_pos (by simp [bstB, hp])]
        simp only [Option.map_none, Option.map_some]
        rw [mh_self hp ha fun i hi => by simp [mhB, B i hi]]
      | some j =>
        rw [hb] at B
        obtain ⟨h1, h2, h3⟩ := B
        have e : ∀ h, rpCmp (oAt offs k) { oAt offs j with hops := h } = rpCmp (oAt offs k) (oAt offs j) := fun h => rfl
        simp only [Option.map_some, e]
        by_cases c1 : rpCmp (oAt offs k) (oAt offs j) < 0
        · rw [if_pos c1, if_pos (by simp [bstB, hp, c1])]
          simp only [Option.map_some]
          rw [mh_self hp ha fun i hi => ?_]
          by_cases hpi : (oAt offs i).pfx = p
          · have e1 := h3 i hi hpi
            have e2 := rpCmp_anti (oAt offs i) (oAt offs j)
            have : ¬ rpCmp (oAt offs i) (oAt offs k) = 0 := fun z => by
              have e4 := rpCmp_anti (oAt offs i) (oAt offs k)
              have e5 := rpCmp_trans (a := oAt offs j) (b := oAt offs i) (c := oAt offs k) (by omega) (by omega)
              have e6 := rpCmp_anti (oAt offs k) (oAt offs j)
              omega
            simp [mhB, this]
          · simp [mhB, hpi]
        · have nb : ¬ bstB offs p (some j) k = true := by simp [bstB, hp, c1]
          by_cases c2 : rpCmp (oAt offs k) (oAt offs j) = 0
          · rw [if_neg c1, if_pos c2, if_neg nb]
            simp only [Option.map_some]
            rw [mh, if_pos (by simp [mhB, hp, c2])]
          · rw [if_neg c1, if_neg c2, if_neg nb]
            simp only [Option.map_some]
            rw [mh, if_neg (by simp [mhB, c2])]
    · rw [if_neg hp, if_neg (by simp [bstB, hp])]
      cases hb : bst offs p k with
      | none => rfl
      | some j =>
        simp only [Option.map_some]
        rw [mh, if_neg (by simp [mhB, hp])]

/-- the reference's route to p -/
def rfBest (offs : List Rp) (p : Ls.Pfx) : Rp :=
  match bst offs p offs.length with
  | none => default
  | some j => { oAt offs j with hops := mh offs p j offs.length }
def rfRoutes (offs : List Rp) : List Rp := (Ls.adds Ls.pfxLt [] (offs.map Rp.pfx)).map (rfBest offs)

theorem rfRoutes_tab (offs : List Rp) (hs : ∀ r ∈ offs, Ls.Asc Ls.hopLt r.hops) (l : List Rp) (hl : l.Pairwise fun a b => Ls.pfxLt a.pfx b.pfx = true) (hm : ∀ r, r ∈ l ↔ tK offs offs.length r.pfx = some r) : l = rfRoutes offs := by
  have key := fun p => tK_eq offs hs p offs.length (Nat.le_refl _)
  have hb : ∀ p, p ∈ offs.map Rp.pfx → ∃ j, bst offs p offs.length = some j ∧ (oAt offs j).pfx = p := by
    intro p hp
    obtain ⟨r, hr, rfl⟩ := List.mem_map.1 hp
    obtain ⟨i, hi, rfl⟩ := List.getElem_of_mem hr
    have B := bst_inv offs (offs[i]).pfx offs.length
    cases hb : bst offs (offs[i]).pfx offs.length with
    | none => rw [hb] at B; exact absurd (by rw [oAt_eq hi]) (B i hi)
    | some j => rw [hb] at B; exact ⟨j, rfl, B.2.1⟩
  have e1 : l.map Rp.pfx = Ls.adds Ls.pfxLt [] (offs.map Rp.pfx) := by
    refine Ls.asc_ext Ls.pfxLin _ _ (List.pairwise_map.2 hl) (Ls.asc_adds Ls.pfxLin _ _ (by simp [Ls.Asc])) fun p => ?_
    rw [Ls.mem_adds]
    constructor
    · intro hp
      obtain ⟨r, hr, rfl⟩ := List.mem_map.1 hp
      have h1 := (hm r).1 hr
      rw [key] at h1
      have B := bst_inv offs r.pfx offs.length
      cases hb2 : bst offs r.pfx offs.length with
      | none => rw [hb2] at h1; cases h1
      | some j =>
        rw [hb2] at B
        refine .inr (List.mem_map.2 ⟨offs[j]'B.1, List.getElem_mem _, ?_⟩)
        rw [← oAt_eq B.1]
        exact B.2.1
    · intro hp
      rcases hp with hp | hp
      · cases hp
      · obtain ⟨j, h1, h2⟩ := hb p hp
        have h3 := key p
        rw [h1] at h3
        simp only [Option.map_some] at h3
        refine List.mem_map.2 ⟨{ oAt offs j with hops := mh offs p j offs.length }, (hm _).2 ?_, h2⟩
        show tK offs offs.length (oAt offs j).pfx = _
        rw [h2]; exact h3
  unfold rfRoutes
  rw [← e1, List.map_map]
  have e2 : ∀ r ∈ l, (rfBest offs ∘ Rp.pfx) r = r := by
    intro r hr
    have h1 := (hm r).1 hr
    rw [key] at h1
    show rfBest offs r.pfx = r
    unfold rfBest
    cases hb2 : bst offs r.pfx offs.length with
    | none => rw [hb2] at h1; cases h1
    | some j =>
      rw [hb2] at h1
      exact Option.some.inj h1
  rw [List.map_congr_left e2, List.map_id'']
  intro x; rfl

end Go.Proofs.YtiemmejpaahbpaaGreat
