/-
  inter.Choose in plain words: what is chosen is settled by the routes alone.
-/
/-
  routingref33.Choose in plain words.
-/
import Derived.Test.YtogdconliofblaaGreatSrr
import Derived.Test.YtogdconliofblaaGreatBkp
import Derived.Test.YtogdconliofblaaGreatSwv
namespace Go.Proofs.YtogdconliofblaaGreat
open Go.Sort

/-- what routes are compared by -/
structure Ck where
  pfx : Ls.Pfx
  proto : Int
  cost : Int
deriving DecidableEq
def Rt.ck (r : Rt) : Ck := ⟨r.pfx, r.proto, r.cost⟩
def Rp.ck (r : Rp) : Ck := ⟨r.pfx, r.proto, r.cost⟩
def ckLt (a b : Ck) : Bool := Ls.lexB a.pfx.addr b.pfx.addr (Ls.lexB a.pfx.len b.pfx.len (Ls.lexB a.proto b.proto (decide (a.cost < b.cost))))
theorem ckLin : Ls.Lin ckLt where
  irr a := by simp [ckLt, Ls.lexB]
  tr a b c h1 h2 := by simp [ckLt, Ls.lexB] at h1 h2 ⊢; omega
  tot a b h1 h2 := by
    obtain ⟨⟨a1, a2⟩, a3, a4⟩ := a
    obtain ⟨⟨b1, b2⟩, b3, b4⟩ := b
    simp [ckLt, Ls.lexB] at h1 h2 ⊢; omega
theorem ckLt_iff {a b : Ck} : ckLt a b = true ↔ Ls.pfxLt a.pfx b.pfx = true ∨ (a.pfx = b.pfx ∧ (a.proto < b.proto ∨ (a.proto = b.proto ∧ a.cost < b.cost))) := by
  obtain ⟨⟨a1, a2⟩, a3, a4⟩ := a
  obtain ⟨⟨b1, b2⟩, b3, b4⟩ := b
  simp [ckLt, Ls.pfxLt, Ls.lexB]; omega
def ckC (a b : Ck) : Int := orI [pfxCmp a.pfx b.pfx, cmpI a.proto b.proto, cmpI a.cost b.cost]
theorem pfxCmp_cases (p q : Ls.Pfx) : (Ls.pfxLt p q = true ∧ pfxCmp p q = -1) ∨ (p = q ∧ pfxCmp p q = 0) ∨ (Ls.pfxLt p q = false ∧ p ≠ q ∧ pfxCmp p q = 1) := by
  unfold pfxCmp
  cases h : Ls.pfxLt p q with
  | true => exact .inl ⟨rfl, rfl⟩
  | false =>
    by_cases e : p = q
    · right; left; subst e; simp
    · right; right; exact ⟨rfl, e, by simp [e]⟩
theorem ckC_lt (a b : Ck) : decide (ckC a b < 0) = ckLt a b := by
  rw [Bool.eq_iff_iff, decide_eq_true_iff, ckLt_iff]
  unfold ckC
  rcases pfxCmp_cases a.pfx b.pfx with ⟨h1, e1⟩ | ⟨h1, e1⟩ | ⟨h1, h2, e1⟩
  · rw [e1]; simp [orI, h1]
  · rw [e1, h1, Ls.pfxLin.irr]
    rcases cmpI_cases a.proto b.proto with ⟨h3, e3⟩ | ⟨h3, e3⟩ | ⟨h3, e3⟩ <;> rcases cmpI_cases a.cost b.cost with ⟨h4, e4⟩ | ⟨h4, e4⟩ | ⟨h4, e4⟩ <;> rw [e3, e4] <;> simp [orI] <;> omega
  · rw [e1]; simp [orI, h1, h2]
theorem swo_lin {α β : Type} {lt : α → α → Bool} (L : Ls.Lin lt) (f : β → α) : SWO (fun a b => lt (f a) (f b)) := by
  refine ⟨fun a => L.irr _, fun a b c => L.tr _ _ _, fun x y z h1 h2 => ?_⟩
  cases c : lt (f x) (f z) with
  | false => rfl
  | true =>
    cases d : lt (f y) (f x) with
    | true => have := L.tr _ _ _ d c; rw [h2] at this; cases this
    | false =>
      have := L.tot _ _ h1 d
      rw [this, h2] at c; cases c

section
variable (A : Nat → Rp)
/-- i goes before j: less, or equal and earlier -/
def Bf (i j : Nat) : Prop := StL (fun a b => ckLt (A a).ck (A b).ck) id i j
variable {A}
theorem Bf.irr (i : Nat) : ¬ Bf A i i := by
  rintro (h | ⟨_, h⟩)
  · have h : ckLt (A i).ck (A i).ck = true := h
    rw [ckLin.irr] at h; cases h
  · exact Nat.lt_irrefl _ h
theorem Bf.tr {i j k : Nat} (h1 : Bf A i j) (h2 : Bf A j k) : Bf A i k := StL.tr (swo_lin ckLin fun a => (A a).ck) _ _ _ h1 h2
theorem Bf.lt_of {i j : Nat} (h : ckLt (A i).ck (A j).ck = true) : Bf A i j := .inl h
theorem Bf.of_eq {i j : Nat} (h : (A i).ck = (A j).ck) (h2 : i < j) : Bf A i j := .inr ⟨by show ckLt (A j).ck (A i).ck = false; rw [h, ckLin.irr], h2⟩
theorem Bf.or {i j : Nat} (h : Bf A i j) : ckLt (A i).ck (A j).ck = true ∨ ((A i).ck = (A j).ck ∧ i < j) := by
  rcases h with h | ⟨h, h2⟩
  · exact .inl h
  · have h : ckLt (A j).ck (A i).ck = false := h
    cases e : ckLt (A i).ck (A j).ck with
    | true => exact .inl rfl
    | false => exact .inr ⟨ckLin.tot _ _ e h, h2⟩
theorem Bf.pfx {i j : Nat} (h : Bf A i j) : Ls.pfxLt (A i).pfx (A j).pfx = true ∨ (A i).pfx = (A j).pfx := by
  rcases h.or with h | ⟨h, _⟩
  · rcases ckLt_iff.1 h with h | ⟨h, _⟩
    · exact .inl h
    · exact .inr h
  · exact .inr (congrArg Ck.pfx h)
theorem Bf.tot {i j : Nat} (h : i ≠ j) : Bf A i j ∨ Bf A j i := by
  cases e : ckLt (A i).ck (A j).ck with
  | true => exact .inl (.inl e)
  | false =>
    cases e2 : ckLt (A j).ck (A i).ck with
    | true => exact .inr (.inl e2)
    | false =>
      have := ckLin.tot _ _ e e2
      rcases Nat.lt_or_gt_of_ne h with h | h
      · exact .inl (.of_eq this h)
      · exact .inr (.of_eq this.symm h)

variable (A)
/-- o is what is chosen at i's prefix -/
structure ChO (S : Nat → Prop) (i : Nat) (o : Rp) : Prop where
  inS : S i
  best : ∀ j, S j → (A j).pfx = (A i).pfx → j = i ∨ Bf A i j
  e : o = { A i with hops := o.hops }
  asc : Ls.Asc Ls.hopLt o.hops
  mem : ∀ x, x ∈ o.hops ↔ ∃ j, S j ∧ (A j).ck = (A i).ck ∧ x ∈ (A j).hops
structure ChIs (S : Nat → Prop) (out : List Rp) : Prop where
  asc : out.Pairwise fun a b => Ls.pfxLt a.pfx b.pfx = true
  of : ∀ o ∈ out, ∃ i, ChO A S i o
  all : ∀ i, S i → ∃ o ∈ out, o.pfx = (A i).pfx
variable {A}

theorem ChO.pfx {S : Nat → Prop} {i : Nat} {o : Rp} (h : ChO A S i o) : o.pfx = (A i).pfx := by rw [h.e]
theorem ChO.ck {S : Nat → Prop} {i : Nat} {o : Rp} (h : ChO A S i o) : o.ck = (A i).ck := by rw [h.e]; rfl

theorem ChIs.sub {S : Nat → Prop} {out out' : List Rp} (h : ChIs A S out) (h' : ChIs A S out') : ∀ o ∈ out, o ∈ out' := by
  intro o ho
  obtain ⟨i, O⟩ := h.of o ho
  obtain ⟨o', ho', e'⟩ := h'.all i O.inS
  obtain ⟨i', O'⟩ := h'.of o' ho'
  have ep : (A i').pfx = (A i).pfx := O'.pfx.symm.trans e'
  have ei : i' = i := by
    rcases O.best i' O'.inS ep with e | e
    · exact e
    · rcases O'.best i O.inS ep.symm with e2 | e2
      · exact e2.symm
      · exact absurd (e.tr e2) (Bf.irr _)
  subst ei
  have eh : o.hops = o'.hops := Ls.asc_ext Ls.hopLin _ _ O.asc O'.asc fun x => by rw [O.mem, O'.mem]
  have : o = o' := by rw [O.e, O'.e, eh]
  rw [this]; exact ho'
theorem ChIs.eq {S : Nat → Prop} {out out' : List Rp} (h : ChIs A S out) (h' : ChIs A S out') : out = out' :=
  asc_eq (R := fun a b : Rp => Ls.pfxLt a.pfx b.pfx = true) (fun a h => by rw [Ls.pfxLin.irr] at h; cases h) (fun a b c => Ls.pfxLin.tr _ _ _) out out' h.asc h'.asc fun o => ⟨h.sub h' o, h'.sub h o⟩
theorem ChIs.congr {S S' : Nat → Prop} {out : List Rp} (h : ChIs A S out) (e : ∀ i, S i ↔ S' i) : ChIs A S' out := by
  have : S = S' := funext fun i => propext (e i)
  rwa [← this]
theorem ChIs.nil : ChIs A (fun _ => False) [] := ⟨List.Pairwise.nil, fun o h => by simp at h, fun i h => h.elim⟩

/-- a route with a prefix of its own -/
theorem ChIs.new {S : Nat → Prop} {out : List Rp} {r : Nat} (h : ChIs A S out) (hb : ∀ i, S i → Bf A i r) (hn : ∀ o, out.getLast? = some o → o.pfx ≠ (A r).pfx) :
    ChIs A (fun i => S i ∨ i = r) (out ++ [{ A r with hops := Ls.merge Ls.hopLt (A r).hops [] }]) := by
  have lt : ∀ o ∈ out, Ls.pfxLt o.pfx (A r).pfx = true := by
    intro o ho
    obtain ⟨L, z, rfl⟩ : ∃ L z, out = L ++ [z] := by
      rcases List.eq_nil_or_concat out with e | ⟨L, z, e⟩
      · subst e; simp at ho
      · exact ⟨L, z, by simpa using e⟩
    have hz := hn z (by simp)
    obtain ⟨i, O⟩ := h.of z (by simp)
    have l1 : Ls.pfxLt z.pfx (A r).pfx = true := by
      rcases (hb i O.inS).pfx with e | e
      · rw [O.pfx]; exact e
      · exact absurd (O.pfx.trans e) hz
    rcases List.mem_append.1 ho with h1 | h1
    · exact Ls.pfxLin.tr _ _ _ ((List.pairwise_append.1 h.asc).2.2 o h1 z (by simp)) l1
    · rw [List.mem_singleton.1 h1]; exact l1
  have ne : ∀ i, S i → (A i).pfx ≠ (A r).pfx := by
    intro i hi e
    obtain ⟨o, ho, e2⟩ := h.all i hi
    have := lt o ho
    rw [e2, e, Ls.pfxLin.irr] at this; cases this
  refine ⟨?_, ?_, ?_⟩
  · rw [List.pairwise_append]
    exact ⟨h.asc, List.pairwise_singleton _ _, fun o ho x hx => by rw [List.mem_singleton.1 hx]; exact lt o ho⟩
  · intro o ho
    rcases List.mem_append.1 ho with h1 | h1
    · obtain ⟨i, O⟩ := h.of o h1
      refine ⟨i, .inl O.inS, fun j hj ej => ?_, O.e, O.asc, fun x => ?_⟩
      · rcases hj with hj | rfl
        · exact O.best j hj ej
        · exact absurd ej.symm (ne i O.inS)
      · rw [O.mem]
        constructor
        · rintro ⟨j, h1, h2⟩; exact ⟨j, .inl h1, h2⟩
        · rintro ⟨j, h1 | rfl, h2, h3⟩
          · exact ⟨j, h1, h2, h3⟩
          · exact absurd (congrArg Ck.pfx h2).symm (ne i O.inS)
    · rw [List.mem_singleton.1 h1]
      refine ⟨r, .inr rfl, fun j hj ej => ?_, rfl, Ls.asc_merge Ls.hopLin _ _, fun x => ?_⟩
      · rcases hj with hj | rfl
        · exact absurd ej (ne j hj)
        · exact .inl rfl
      · simp only [Ls.mem_merge, List.not_mem_nil, or_false]
        constructor
        · intro hx; exact ⟨r, .inr rfl, rfl, hx⟩
        · rintro ⟨j, h1 | rfl, h2, h3⟩
          · exact absurd (congrArg Ck.pfx h2) (ne j h1)
          · exact h3
  · intro i hi
    rcases hi with hi | rfl
    · obtain ⟨o, ho, e⟩ := h.all i hi
      exact ⟨o, List.mem_append_left _ ho, e⟩
    · exact ⟨_, List.mem_append_right _ (List.mem_singleton.2 rfl), rfl⟩

/-- a route that is no better than the one chosen, nor like it -/
theorem ChIs.skip {S : Nat → Prop} {out : List Rp} {z : Rp} {r : Nat} (h : ChIs A S out) (hz : z ∈ out) (hb : ∀ i, S i → Bf A i r) (hp : z.pfx = (A r).pfx) (hn : ¬ (z.proto = (A r).proto ∧ z.cost = (A r).cost)) :
    ChIs A (fun i => S i ∨ i = r) out := by
  refine ⟨h.asc, fun o ho => ?_, fun i hi => ?_⟩
  · obtain ⟨i, O⟩ := h.of o ho
    have nck : (A r).ck ≠ (A i).ck := by
      intro e
      have e1 : o.pfx = z.pfx := by rw [O.pfx, hp]; exact (congrArg Ck.pfx e).symm
      have e2 : o = z := by
        obtain ⟨k, hk, rfl⟩ := List.getElem_of_mem ho
        obtain ⟨m, hm, rfl⟩ := List.getElem_of_mem hz
        have hpw := List.pairwise_iff_getElem.1 h.asc
        rcases Nat.lt_trichotomy k m with c | c | c
        · have := hpw k m hk hm c; rw [e1, Ls.pfxLin.irr] at this; cases this
        · subst c; rfl
        · have := hpw m k hm hk c; rw [e1, Ls.pfxLin.irr] at this; cases this
      subst e2
      have e3 := O.ck.trans e.symm
      exact hn ⟨congrArg Ck.proto e3, congrArg Ck.cost e3⟩
    refine ⟨i, .inl O.inS, fun j hj ej => ?_, O.e, O.asc, fun x => ?_⟩
    · rcases hj with hj | rfl
      · exact O.best j hj ej
      · exact .inr (hb i O.inS)
    · rw [O.mem]
      constructor
      · rintro ⟨j, h1, h2⟩; exact ⟨j, .inl h1, h2⟩
      · rintro ⟨j, h1 | rfl, h2, h3⟩
        · exact ⟨j, h1, h2, h3⟩
        · exact absurd h2 nck
  · rcases hi with hi | rfl
    · exact h.all i hi
    · exact ⟨z, hz, hp⟩

/-- a route like the one chosen last: its hops are added -/
theorem ChIs.like {S : Nat → Prop} {L : List Rp} {z : Rp} {r : Nat} (h : ChIs A S (L ++ [z])) (hb : ∀ i, S i → Bf A i r) (hp : z.pfx = (A r).pfx) (h1 : z.proto = (A r).proto) (h2 : z.cost = (A r).cost) :
    ChIs A (fun i => S i ∨ i = r) (L ++ [{ z with hops := Ls.merge Ls.hopLt z.hops (A r).hops }]) := by
  obtain ⟨a1, a2, a3⟩ := List.pairwise_append.1 h.asc
  refine ⟨?_, fun o ho => ?_, fun i hi => ?_⟩
  · rw [List.pairwise_append]
    exact ⟨a1, List.pairwise_singleton _ _, fun o ho x hx => by rw [List.mem_singleton.1 hx]; exact a3 o ho z (by simp)⟩
  · rcases List.mem_append.1 ho with h3 | h3
    · obtain ⟨i, O⟩ := h.of o (List.mem_append_left _ h3)
      have np : (A r).pfx ≠ (A i).pfx := by
        intro e
        have := a3 o h3 z (by simp)
        rw [O.pfx, hp, e, Ls.pfxLin.irr] at this; cases this
      refine ⟨i, .inl O.inS, fun j hj ej => ?_, O.e, O.asc, fun x => ?_⟩
      · rcases hj with hj | rfl
        · exact O.best j hj ej
        · exact absurd ej np
      · rw [O.mem]
        constructor
        · rintro ⟨j, h1, h2⟩; exact ⟨j, .inl h1, h2⟩
        · rintro ⟨j, h1 | rfl, h2, h3⟩
          · exact ⟨j, h1, h2, h3⟩
          · exact absurd (congrArg Ck.pfx h2) np
    · rw [List.mem_singleton.1 h3]
      obtain ⟨i, O⟩ := h.of z (by simp)
      have ei : (A r).ck = (A i).ck := by
        have := O.ck
        rw [← this]
        show (⟨(A r).pfx, (A r).proto, (A r).cost⟩ : Ck) = ⟨z.pfx, z.proto, z.cost⟩
        rw [hp, h1, h2]
      refine ⟨i, .inl O.inS, fun j hj ej => ?_, ?_, Ls.asc_merge Ls.hopLin _ _, fun x => ?_⟩
      · rcases hj with hj | rfl
        · exact O.best j hj ej
        · exact .inr (hb i O.inS)
      · have e := O.e
        cases hz : A i
        rw [hz] at e
        rw [e]
      · simp only [Ls.mem_merge, O.mem]
        constructor
        · rintro (⟨j, h1, h2⟩ | h1)
          · exact ⟨j, .inl h1, h2⟩
          · exact ⟨r, .inr rfl, ei, h1⟩
        · rintro ⟨j, h1 | rfl, h2, h3⟩
          · exact .inl ⟨j, h1, h2, h3⟩
          · exact .inr h3
  · rcases hi with hi | rfl
    · obtain ⟨o, ho, e⟩ := h.all i hi
      rcases List.mem_append.1 ho with h3 | h3
      · exact ⟨o, List.mem_append_left _ h3, e⟩
      · refine ⟨_, List.mem_append_right _ (List.mem_singleton.2 rfl), ?_⟩
        rw [List.mem_singleton.1 h3] at e; exact e
    · exact ⟨_, List.mem_append_right _ (List.mem_singleton.2 rfl), hp⟩

/-- choosing again changes nothing -/
theorem ChIs.self {S : Nat → Prop} {out : List Rp} (h : ChIs A S out) : ChIs (fun i => out.getD i default) (fun i => i < out.length) out := by
  have gd : ∀ i (c : i < out.length), out.getD i default = out[i] := fun i c => by rw [List.getD_eq_getElem?_getD, List.getElem?_eq_getElem c]; rfl
  have inj : ∀ i j, i < out.length → j < out.length → (out.getD j default).pfx = (out.getD i default).pfx → j = i := by
    intro i j hi hj e
    rw [gd i hi, gd j hj] at e
    have hpw := List.pairwise_iff_getElem.1 h.asc
    rcases Nat.lt_trichotomy i j with c | c | c
    · have := hpw i j hi hj c; rw [e, Ls.pfxLin.irr] at this; cases this
    · exact c.symm
    · have := hpw j i hj hi c; rw [e, Ls.pfxLin.irr] at this; cases this
  refine ⟨h.asc, fun o ho => ?_, fun i hi => ⟨_, by rw [gd i hi]; exact List.getElem_mem hi, rfl⟩⟩
  obtain ⟨i, hi, rfl⟩ := List.getElem_of_mem ho
  obtain ⟨i0, O⟩ := h.of _ ho
  refine ⟨i, hi, fun j hj e => .inl (inj i j hi hj e), by rw [gd i hi], O.asc, fun x => ?_⟩
  constructor
  · intro hx; exact ⟨i, hi, rfl, by rw [gd i hi]; exact hx⟩
  · rintro ⟨j, hj, e, hx⟩
    have := inj i j hi hj (congrArg Ck.pfx e)
    subst this
    rwa [gd j hi] at hx
end

end Go.Proofs.YtogdconliofblaaGreat

namespace Go.Proofs.YtogdconliofblaaGreat
open Go.Sort

section
variable {A : Nat → Rp} {p : Ls.Pfx} {k : Nat} {b : Int}
/-- the best place so far; -1: none -/
def BstF (A : Nat → Rp) (p : Ls.Pfx) (k : Nat) (b : Int) : Prop := (b = -1 ∧ ∀ j, j < k → (A j).pfx ≠ p) ∨ ∃ i : Nat, b = i ∧ i < k ∧ (A i).pfx = p ∧ ∀ j, j < k → (A j).pfx = p → j = i ∨ Bf A i j
theorem BstF.zero : BstF A p 0 (-1) := .inl ⟨rfl, fun j h => by omega⟩
theorem BstF.at {i : Nat} (h : BstF A p k i) : i < k ∧ (A i).pfx = p ∧ ∀ j, j < k → (A j).pfx = p → j = i ∨ Bf A i j := by
  rcases h with ⟨h, _⟩ | ⟨i', e, h⟩
  · omega
  · obtain rfl : i = i' := by omega
    exact h
theorem BstF.none (h : BstF A p k (-1)) : ∀ j, j < k → (A j).pfx ≠ p := by
  rcases h with ⟨_, h⟩ | ⟨i', e, h⟩
  · exact h
  · omega
theorem BstF.other (h : BstF A p k b) (hn : (A k).pfx ≠ p) : BstF A p (k + 1) b := by
  rcases h with ⟨rfl, h⟩ | ⟨i, rfl, h1, h2, h3⟩
  · refine .inl ⟨rfl, fun j hj => ?_⟩
    by_cases e : j = k
    · subst e; exact hn
    · exact h j (by omega)
  · refine .inr ⟨i, rfl, by omega, h2, fun j hj ej => ?_⟩
    by_cases e : j = k
    · subst e; exact absurd ej hn
    · exact h3 j (by omega) ej
theorem BstF.first (h : BstF A p k (-1)) (hp : (A k).pfx = p) : BstF A p (k + 1) k := by
  refine .inr ⟨k, rfl, by omega, hp, fun j hj ej => ?_⟩
  by_cases e : j = k
  · exact .inl e
  · exact absurd ej (h.none j (by omega))
theorem BstF.less {i : Nat} (h : BstF A p k i) (hp : (A k).pfx = p) (hl : (A k).proto < (A i).proto ∨ ((A k).proto = (A i).proto ∧ (A k).cost < (A i).cost)) : BstF A p (k + 1) k := by
  obtain ⟨h1, h2, h3⟩ := h.at
  have hb : Bf A k i := .lt_of (ckLt_iff.2 (.inr ⟨hp.trans h2.symm, hl⟩))
  refine .inr ⟨k, rfl, by omega, hp, fun j hj ej => ?_⟩
  by_cases e : j = k
  · exact .inl e
  · rcases h3 j (by omega) ej with e | e
    · subst e; exact .inr hb
    · exact .inr (hb.tr e)
theorem BstF.keep {i : Nat} (h : BstF A p k i) (hp : (A k).pfx = p) (hl : ¬ ((A k).proto < (A i).proto ∨ ((A k).proto = (A i).proto ∧ (A k).cost < (A i).cost))) : BstF A p (k + 1) i := by
  obtain ⟨h1, h2, h3⟩ := h.at
  have hb : Bf A i k := by
    rcases Bf.tot (A := A) (show i ≠ k by omega) with e | e
    · exact e
    · rcases e.or with e | ⟨_, e⟩
      · rcases ckLt_iff.1 e with e | ⟨_, e⟩
        · have e : Ls.pfxLt (A k).pfx (A i).pfx = true := e
          rw [hp, h2, Ls.pfxLin.irr] at e; cases e
        · exact absurd e hl
      · omega
  refine .inr ⟨i, rfl, by omega, h2, fun j hj ej => ?_⟩
  by_cases e : j = k
  · subst e; exact .inr hb
  · exact h3 j (by omega) ej
theorem BstF.tb (h : BstF A p k b) : ∃ tb : Bool, (tb = true → BstF A p (k + 1) k) ∧ (tb = false → BstF A p (k + 1) b) ∧ ((A k).pfx ≠ p → tb = false) ∧ ((A k).pfx = p → b = -1 → tb = true) ∧
    ∀ i : Nat, (A k).pfx = p → b = i → (tb = true ↔ (A k).proto < (A i).proto ∨ ((A k).proto = (A i).proto ∧ (A k).cost < (A i).cost)) := by
  by_cases hp : (A k).pfx = p
  · by_cases hb : b = -1
    · subst hb
      exact ⟨true, fun _ => h.first hp, fun e => (by cases e), fun e => absurd hp e, fun _ _ => rfl, fun i _ e => (by omega)⟩
    · obtain ⟨i, rfl⟩ : ∃ i : Nat, b = i := by
        rcases h with ⟨e, _⟩ | ⟨i, e, _⟩
        · exact absurd e hb
        · exact ⟨i, e⟩
      refine ⟨decide ((A k).proto < (A i).proto ∨ ((A k).proto = (A i).proto ∧ (A k).cost < (A i).cost)), fun e => h.less hp (of_decide_eq_true e), fun e => h.keep hp (of_decide_eq_false e), fun e => absurd hp e, fun _ e => absurd e hb, fun i' _ e => ?_⟩
      obtain rfl : i = i' := by omega
      exact decide_eq_true_iff
  · exact ⟨false, fun e => (by cases e), fun _ => h.other hp, fun _ => rfl, fun e => absurd e hp, fun i e => absurd e hp⟩
theorem BstF.neg (h : BstF A p k b) : b = -1 ∨ ∃ i : Nat, b = i ∧ i < k := by
  rcases h with ⟨h, _⟩ | ⟨i, h, h1, _⟩
  · exact .inl h
  · exact .inr ⟨i, h, h1⟩
theorem BstF.some {n : Nat} (h : BstF A p n b) (hx : ∃ j, j < n ∧ (A j).pfx = p) : ∃ i : Nat, b = i ∧ i < n := by
  rcases h with ⟨_, h⟩ | ⟨i, rfl, h, _⟩
  · obtain ⟨j, h1, h2⟩ := hx
    exact absurd h2 (h j h1)
  · exact ⟨i, rfl, h⟩

/-- the hops of k routes that are like i -/
def HopF (A : Nat → Rp) (i k : Nat) (hs : List Ls.Hop) : Prop := Ls.Asc Ls.hopLt hs ∧ ∀ x, x ∈ hs ↔ ∃ j, j < k ∧ (A j).ck = (A i).ck ∧ x ∈ (A j).hops
variable {i : Nat} {hs : List Ls.Hop}
theorem HopF.zero : HopF A i 0 [] := ⟨List.Pairwise.nil, fun x => by simp⟩
theorem HopF.other (h : HopF A i k hs) (hn : (A k).ck ≠ (A i).ck) : HopF A i (k + 1) hs := by
  refine ⟨h.1, fun x => ?_⟩
  rw [h.2]
  constructor
  · rintro ⟨j, h1, h2⟩; exact ⟨j, by omega, h2⟩
  · rintro ⟨j, h1, h2, h3⟩
    by_cases e : j = k
    · subst e; exact absurd h2 hn
    · exact ⟨j, by omega, h2, h3⟩
theorem HopF.like (h : HopF A i k hs) (hn : (A k).ck = (A i).ck) : HopF A i (k + 1) (Ls.merge Ls.hopLt hs (A k).hops) := by
  refine ⟨Ls.asc_merge Ls.hopLin _ _, fun x => ?_⟩
  rw [Ls.mem_merge, h.2]
  constructor
  · rintro (⟨j, h1, h2⟩ | h1)
    · exact ⟨j, by omega, h2⟩
    · exact ⟨k, by omega, hn, h1⟩
  · rintro ⟨j, h1, h2, h3⟩
    by_cases e : j = k
    · subst e; exact .inr h3
    · exact .inl ⟨j, by omega, h2, h3⟩

/-- the routes to k prefixes are put out -/
structure RefC (A : Nat → Rp) (n : Nat) (ps : List Ls.Pfx) (k : Nat) (out : List Rp) : Prop where
  pf : out.map Rp.pfx = ps.take k
  of : ∀ o ∈ out, ∃ i, ChO A (fun i => i < n) i o
variable {n : Nat} {ps : List Ls.Pfx} {out : List Rp}
theorem RefC.zero : RefC A n ps 0 [] := ⟨rfl, fun o h => by cases h⟩
theorem RefC.step (H : RefC A n ps k out) (c : k < ps.length) (hb : BstF A ps[k] n (i : Nat)) (hh : HopF A i n hs) : RefC A n ps (k + 1) (out ++ [{ A i with hops := hs }]) := by
  obtain ⟨h1, h2, h3⟩ := hb.at
  refine ⟨?_, fun o ho => ?_⟩
  · rw [List.map_append, H.pf, List.take_succ_eq_append_getElem c]
    simp [h2]
  · rcases List.mem_append.1 ho with h | h
    · exact H.of o h
    · rw [List.mem_singleton.1 h]
      exact ⟨i, h1, fun j hj e => h3 j hj (e.trans h2), rfl, hh.1, hh.2⟩
theorem RefC.fin (H : RefC A n ps ps.length out) (asc : Ls.Asc Ls.pfxLt ps) (mem : ∀ i, i < n → (A i).pfx ∈ ps) : ChIs A (fun i => i < n) out := by
  have e := H.pf
  rw [List.take_length] at e
  refine ⟨?_, H.of, fun i hi => ?_⟩
  · have h : (out.map Rp.pfx).Pairwise fun a b => Ls.pfxLt a b = true := by rw [e]; exact asc
    exact List.pairwise_map.1 h
  · have h := mem i hi
    rw [← e] at h
    obtain ⟨o, ho, eo⟩ := List.mem_map.1 h
    exact ⟨o, ho, eo⟩
end

end Go.Proofs.YtogdconliofblaaGreat
