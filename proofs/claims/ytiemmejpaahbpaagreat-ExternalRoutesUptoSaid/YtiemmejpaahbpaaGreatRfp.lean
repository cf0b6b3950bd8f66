/-
  The reference's external routes in plain words: its ways, its offers, its routes; they are those of the program.
-/
import Derived.Test.YtiemmejpaahbpaaGreatFin
namespace Go.Proofs.YtiemmejpaahbpaaGreat
open Go.RowKit

/-! ### ways -/

structure RwSt where
  cost : Int
  ok : Bool
  hops : List Ls.Hop

def rwSkip (router : Int) (pass : Bool) (s : RwSt) (x : Rch) : Bool := !decide (x.router = router) || !x.boundary || !(x.inter == pass) || (s.ok && decide (s.cost < x.cost))
def rwNew (s : RwSt) (x : Rch) : Bool := !s.ok || decide (x.cost < s.cost)
def rwStep (router : Int) (pass : Bool) (s : RwSt) (x : Rch) : RwSt :=
  if rwSkip router pass s x then s else ⟨x.cost, true, Ls.merge Ls.hopLt (if rwNew s x then [] else s.hops) x.hops⟩
def rwPass (router : Int) (pass : Bool) (l : List Rch) : RwSt := l.foldl (rwStep router pass) ⟨0, false, []⟩
def rwAll (router : Int) (l : List Rch) : RwSt := if (rwPass router false l).ok then rwPass router false l else if (rwPass router true l).ok then rwPass router true l else ⟨0, false, []⟩

structure RwInv (s : WaySt) (a b : RwSt) : Prop where
  h1 : a.ok = true → s = ⟨true, false, a.cost, a.hops⟩
  h2 : a.ok = false → b.ok = true → s = ⟨true, true, b.cost, b.hops⟩
  h3 : a.ok = false → b.ok = false → s = ⟨false, false, 0, []⟩
  a1 : Ls.Asc Ls.hopLt a.hops
  b1 : Ls.Asc Ls.hopLt b.hops
  l1 : a.hops.length ≤ 0 ∨ True

theorem merge_nil_l (a : List Ls.Hop) : Ls.merge Ls.hopLt [] a = Ls.merge Ls.hopLt a [] := Ls.merge_comm Ls.hopLin _ _

theorem rwInv_step {router : Int} {s : WaySt} {a b : RwSt} (x : Rch) (h : RwInv s a b) : RwInv (wayStep router s x) (rwStep router false a x) (rwStep router true b x) := by
  obtain ⟨h1, h2, h3, a1, b1, _⟩ := h
  by_cases c : x.router = router ∧ x.boundary = true
  · obtain ⟨c1, c2⟩ := c
    have ca : ∀ p s', rwSkip router p s' x = (!(x.inter == p) || (s'.ok && decide (s'.cost < x.cost))) := fun p s' => by simp [rwSkip, c1, c2]
    unfold wayStep rwStep
    rw [if_pos ⟨c1, c2⟩, ca, ca]
    cases hi : x.inter with
    | false =>
      have eb : (!(false == true) || (b.ok && decide (b.cost < x.cost))) = true := by simp
      rw [if_pos eb]
      cases ho : a.ok with
      | false =>
        have : (!(false == false) || (false && decide (a.cost < x.cost))) = false := by simp
        rw [this]
        have hn : rwNew a x = true := by simp [rwNew, ho]
        have ht : wayTake s x = true := by
          cases hbo : b.ok with
          | true => rw [h2 ho hbo]; simp [wayTake, hi]
          | false => rw [h3 ho hbo]; simp [wayTake]
        simp only [Bool.false_eq_true, if_false, hn, ht, if_true]
        refine ⟨fun _ => ?_, fun h => (by cases h), fun h => (by cases h), Ls.asc_merge Ls.hopLin _ _, b1, .inr trivial⟩
        rw [merge_nil_l]
      | true =>
        have hs := h1 ho
        subst hs
        by_cases hc : a.cost < x.cost
        · have : (!(false == false) || (true && decide (a.cost < x.cost))) = true := by simp [hc]
          rw [if_pos this]
          have ht : wayTake ⟨true, false, a.cost, a.hops⟩ x = false := by simp [wayTake, hi]; omega
          have ht2 : wayTie ⟨true, false, a.cost, a.hops⟩ x = false := by simp [wayTie, hi]; omega
          simp only [ht, ht2, Bool.false_eq_true, if_false]
          exact ⟨fun _ => rfl, fun h => (by rw [ho] at h; cases h), fun h => (by rw [ho] at h; cases h), a1, b1, .inr trivial⟩
        · have : (!(false == false) || (true && decide (a.cost < x.cost))) = false := by simp; omega
          rw [this]
          by_cases hc2 : x.cost < a.cost
          · have ht : wayTake ⟨true, false, a.cost, a.hops⟩ x = true := by simp [wayTake, hi, hc2]
            have hn : rwNew a x = true := by simp [rwNew, ho, hc2]
            simp only [Bool.false_eq_true, if_false, hn, ht, if_true]
            refine ⟨fun _ => ?_, fun h => (by cases h), fun h => (by cases h), Ls.asc_merge Ls.hopLin _ _, b1, .inr trivial⟩
            rw [merge_nil_l]
          · have he : a.cost = x.cost := by omega
            have ht : wayTake ⟨true, false, a.cost, a.hops⟩ x = false := by simp [wayTake, hi]; omega
            have ht2 : wayTie ⟨true, false, a.cost, a.hops⟩ x = true := by simp [wayTie, hi, he]
            have hn : rwNew a x = false := by simp [rwNew, ho]; omega
            simp only [Bool.false_eq_true, if_false, hn, ht, ht2, if_true]
            exact ⟨fun _ => by rw [he], fun h => (by cases h), fun h => (by cases h), Ls.asc_merge Ls.hopLin _ _, b1, .inr trivial⟩
    | true =>
      have eb : (!(true == false) || (a.ok && decide (a.cost < x.cost))) = true := by simp
      rw [if_pos eb]
      cases ho : a.ok with
      | true =>
        have hs := h1 ho
        subst hs
        have ht : wayTake ⟨true, false, a.cost, a.hops⟩ x = false := by simp [wayTake, hi]
        have ht2 : wayTie ⟨true, false, a.cost, a.hops⟩ x = false := by simp [wayTie, hi]
        simp only [ht, ht2, Bool.false_eq_true, if_false]
        refine ⟨fun _ => rfl, fun h => (by rw [ho] at h; cases h), fun h => (by rw [ho] at h; cases h), a1, ?_, .inr trivial⟩
        split
        · exact b1
        · exact Ls.asc_merge Ls.hopLin _ _
      | false =>
        cases hbo : b.ok with
        | false =>
          have : (!(true == true) || (false && decide (b.cost < x.cost))) = false := by simp
          rw [this]
          have hn : rwNew b x = true := by simp [rwNew, hbo]
          have hs := h3 ho hbo
          subst hs
          have ht : wayTake ⟨false, false, 0, []⟩ x = true := by simp [wayTake]
          simp only [Bool.false_eq_true, if_false, hn, ht, if_true]
          refine ⟨fun h => (by rw [ho] at h; cases h), fun _ _ => ?_, fun _ h => (by cases h), a1, Ls.asc_merge Ls.hopLin _ _, .inr trivial⟩
          rw [merge_nil_l]
        | true =>
          have hs := h2 ho hbo
          subst hs
          by_cases hc : b.cost < x.cost
          · have : (!(true == true) || (true && decide (b.cost < x.cost))) = true := by simp [hc]
            rw [if_pos this]
            have ht : wayTake ⟨true, true, b.cost, b.hops⟩ x = false := by simp [wayTake, hi]; omega
            have ht2 : wayTie ⟨true, true, b.cost, b.hops⟩ x = false := by simp [wayTie, hi]; omega
            simp only [ht, ht2, Bool.false_eq_true, if_false]
            exact ⟨fun h => (by rw [ho] at h; cases h), fun _ _ => rfl, fun _ h => (by rw [hbo] at h; cases h), a1, b1, .inr trivial⟩
          · have : (!(true == true) || (true && decide (b.cost < x.cost))) = false := by simp; omega
            rw [this]
            by_cases hc2 : x.cost < b.cost
            · have ht : wayTake ⟨true, true, b.cost, b.hops⟩ x = true := by simp [wayTake, hi, hc2]
              have hn : rwNew b x = true := by simp [rwNew, hbo, hc2]
              simp only [Bool.false_eq_true, if_false, hn, ht, if_true]
              refine ⟨fun h => (by rw [ho] at h; cases h), fun _ _ => ?_, fun _ h => (by cases h), a1, Ls.asc_merge Ls.hopLin _ _, .inr trivial⟩
              rw [merge_nil_l]
            · have he : b.cost = x.cost := by omega
              have ht : wayTake ⟨true, true, b.cost, b.hops⟩ x = false := by simp [wayTake, hi]; omega
              have ht2 : wayTie ⟨true, true, b.cost, b.hops⟩ x = true := by simp [wayTie, hi, he]
              have hn : rwNew b x = false := by simp [rwNew, hbo]; omega
              simp only [Bool.false_eq_true, if_false, hn, ht, ht2, if_true]
              exact ⟨fun h => (by rw [ho] at h; cases h), fun _ _ => by rw [he], fun _ h => (by cases h), a1, Ls.asc_merge Ls.hopLin _ _, .inr trivial⟩
  · have ca : ∀ p s', rwSkip router p s' x = true := fun p s' => by
      simp only [rwSkip]
      by_cases c1 : x.router = router
      · have c2 : x.boundary = false := by cases hb : x.boundary with
          | false => rfl
          | true => exact absurd ⟨c1, hb⟩ c
        simp [c2]
      · simp [c1]
    unfold wayStep rwStep
    rw [if_neg c, if_pos (ca _ _), if_pos (ca _ _)]
    exact ⟨h1, h2, h3, a1, b1, .inr trivial⟩

theorem rw_way (router : Int) (l : List Rch) : RwInv (wayP router l) (rwPass router false l) (rwPass router true l) := by
  unfold wayP rwPass
  have key : ∀ (l : List Rch) (s : WaySt) (a b : RwSt), RwInv s a b → RwInv (l.foldl (wayStep router) s) (l.foldl (rwStep router false) a) (l.foldl (rwStep router true) b) := by
    intro l
    induction l with
    | nil => intro s a b h; exact h
    | cons x l ih => intro s a b h; exact ih _ _ _ (rwInv_step x h)
  exact key l _ _ _ ⟨fun h => (by cases h), fun _ h => (by cases h), fun _ _ => rfl, List.Pairwise.nil, List.Pairwise.nil, .inr trivial⟩

theorem rwAll_way (router : Int) (l : List Rch) : (rwAll router l).ok = (wayP router l).found ∧ (rwAll router l).cost = (wayP router l).cost ∧ (rwAll router l).hops = (wayP router l).hops ∧ Ls.Asc Ls.hopLt (rwAll router l).hops := by
  obtain ⟨h1, h2, h3, a1, b1, _⟩ := rw_way router l
  unfold rwAll
  cases ho : (rwPass router false l).ok with
  | true => rw [if_pos rfl, h1 ho]; exact ⟨ho, rfl, rfl, a1⟩
  | false =>
    rw [if_neg (by simp)]
    cases hb : (rwPass router true l).ok with
    | true => rw [if_pos rfl, h2 ho hb]; exact ⟨hb, rfl, rfl, b1⟩
    | false => rw [if_neg (by simp), h3 ho hb]; exact ⟨rfl, rfl, rfl, List.Pairwise.nil⟩

/-! ### toward an address -/

def towB (a : Int) (l : List RtH) (b : Option Nat) (k : Nat) : Bool := decide (keepI a (rthAt l k).rt.pfx.len = (rthAt l k).rt.pfx.addr) && lookT l b (rthAt l k).rt.pfx.len
def towO (a : Int) (l : List RtH) : Nat → Option Nat
  | 0 => none
  | k + 1 => if towB a l (towO a l k) k then some k else towO a l k
theorem towO_look (a : Int) (l : List RtH) (h : ∀ y ∈ l, validP y.rt.pfx = true) : ∀ k, k ≤ l.length → towO a l k = lookO a l k
  | 0, _ => rfl
  | k + 1, hk => by
    unfold towO lookO
    rw [towO_look a l h k (by omega)]
    have e : towB a l (lookO a l k) k = lookB a l (lookO a l k) k := by
      rw [lookB_at a l _ k (by omega)]
      unfold towB containsP
      rw [rthAt_eq (show k < l.length by omega), h _ (List.getElem_mem (by omega)), Bool.true_and]
    rw [e]
theorem towO_lt (a : Int) (l : List RtH) : ∀ k j, towO a l k = some j → j < k
  | 0, j, h => by cases h
  | k + 1, j, h => by
    unfold towO at h
    split at h
    · cases h; omega
    · have := towO_lt a l k j h; omega

/-! ### offers -/

def rfWay (x : Lsa) (reach : List Rch) (inner : List RtH) : Int × List Ls.Hop × Bool :=
  if (rwAll x.router reach).ok = true ∧ x.fwd ≠ 0 then
    (match towO x.fwd inner inner.length with
     | none => (0, [], false)
     | some j => ((rthAt inner j).rt.cost, Ls.adds Ls.hopLt [] ((rthAt inner j).hops.map (fwdHop x.fwd)), true))
  else ((rwAll x.router reach).cost, (rwAll x.router reach).hops, (rwAll x.router reach).ok)
def rfR (x : Lsa) (reach : List Rch) (inner : List RtH) : Rp :=
  ⟨⟨x.id, x.len⟩, 5, 0, if x.second then (rfWay x reach inner).1 else (rfWay x reach inner).1 + x.cost, x.second, if x.second then x.cost else 0, x.tag, (rfWay x reach inner).2.1⟩
def rfOk (x : Lsa) (reach : List Rch) (inner : List RtH) : Bool := ((rfWay x reach inner).2.2 && decide ((rfWay x reach inner).2.1 ≠ [])) && decide ((rfR x reach inner).cost ≤ 16777216)

theorem rfWay_eq (x : Lsa) (reach : List Rch) (inner : List RtH) (h : ∀ y ∈ inner, validP y.rt.pfx = true) :
    (rfWay x reach inner).2.2 = (offWay x reach inner).2.2 ∧ ((offWay x reach inner).2.2 = true → (rfWay x reach inner).1 = (offWay x reach inner).1 ∧ (rfWay x reach inner).2.1 = Ls.merge Ls.hopLt (offWay x reach inner).2.1 []) := by
  obtain ⟨w1, w2, w3, w4⟩ := rwAll_way x.router reach
  unfold rfWay offWay
  rw [w1]
  by_cases c : (wayP x.router reach).found = true ∧ x.fwd ≠ 0
  · rw [if_pos c, if_pos c, towO_look x.fwd inner h _ (Nat.le_refl _)]
    cases hl : lookO x.fwd inner inner.length with
    | none => exact ⟨rfl, fun e => by cases e⟩
    | some j =>
      have hj := lookO_lt _ _ _ _ hl
      refine ⟨rfl, fun _ => ?_⟩
      have : lookR x.fwd inner = rthAt inner j := by unfold lookR; rw [hl]; rfl
      rw [this]
      exact ⟨rfl, rfl⟩
  · rw [if_neg c, if_neg c, w2, w3]
    refine ⟨rfl, fun _ => ⟨rfl, ?_⟩⟩
    rw [w3] at w4
    exact (Ls.merge_self Ls.hopLin w4).symm

theorem merge_ne (l : List Ls.Hop) : Ls.merge Ls.hopLt l [] = [] ↔ l = [] := by
  constructor
  · intro h
    cases l with
    | nil => rfl
    | cons x l =>
      have : x ∈ Ls.merge Ls.hopLt (x :: l) [] := (Ls.mem_merge _ _ x).2 (.inl (by simp))
      rw [h] at this; cases this
  · rintro rfl; rfl

theorem rf_ok {d : LsaD} (reach : List Rch) (inner : List RtH) (o : OkD d) (ht : d.x.typ = 5) (h : ∀ y ∈ inner, validP y.rt.pfx = true) :
    rfOk d.x reach inner = offOk d.x reach inner ∧ (offOk d.x reach inner = true → rfR d.x reach inner = offR d.x reach inner) := by
  obtain ⟨e1, e2⟩ := rfWay_eq d.x reach inner h
  have ep := lsaPfx_fit o (.inr ht)
  unfold rfOk offOk
  cases hf : (offWay d.x reach inner).2.2 with
  | false =>
    rw [e1, hf]
    exact ⟨rfl, fun h => by simp at h⟩
  | true =>
    obtain ⟨e3, e4⟩ := e2 hf
    have er : rfR d.x reach inner = offR d.x reach inner := by unfold rfR offR; rw [e3, e4, ep]
    rw [e1, hf, er, e4]
    refine ⟨?_, fun _ => rfl⟩
    have : decide (Ls.merge Ls.hopLt (offWay d.x reach inner).2.1 [] ≠ []) = decide (0 < (offR d.x reach inner).hops.length) := by
      rw [Bool.eq_iff_iff, decide_eq_true_eq, decide_eq_true_eq, List.length_pos_iff]
      rfl
    rw [this, Bool.true_and, Bool.true_and, Bool.and_comm]

end Go.Proofs.YtiemmejpaahbpaaGreat
