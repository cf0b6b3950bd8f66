/-
  InterBest in plain words.
-/
import Derived.Test.YtogdconliofblaaGreatRty
import Derived.Test.YtogdconliofblaaGreatSla
import Derived.Test.YtogdconliofblaaGreatFus
namespace Go.Proofs.YtogdconliofblaaGreat
open Go.RowKit

theorem DbOk.mem {db : List LsaD} (h : DbOk db) {d : LsaD} (hd : d ∈ db) : OkD d := by
  obtain ⟨i, hi, rfl⟩ := List.getElem_of_mem hd
  have := (h i hi).1
  rw [dAt_eq hi] at this
  exact this.ok

section
variable {α : Type} [DecidableEq α] {g : α → Option Of} {p q : α} {o z : Of}
theorem tbAdd_self (g : α → Option Of) (p : α) (h : ¬ 16777216 < o.cost) : ∃ z, tbAdd g p o p = some z ∧ z.cost ≤ o.cost := by
  cases e : g p with
  | none => exact ⟨o, by rw [tbAdd_new h e]; simp [upd], Int.le_refl _⟩
  | some old =>
    rcases Int.lt_trichotomy o.cost old.cost with d | d | d
    · exact ⟨o, by rw [tbAdd_lt h e d]; simp [upd], Int.le_refl _⟩
    · exact ⟨⟨old.cost, Ls.merge Ls.hopLt old.hops o.hops⟩, by rw [tbAdd_eq h e d]; simp [upd], by simp only; omega⟩
    · exact ⟨old, by rw [tbAdd_gt h e d]; exact e, by omega⟩
theorem tbAdd_keep (p : α) (o : Of) (h : g q = some z) : ∃ z', tbAdd g p o q = some z' ∧ z'.cost ≤ z.cost := by
  by_cases c : 16777216 < o.cost
  · exact ⟨z, by rw [tbAdd_big c]; exact h, Int.le_refl _⟩
  by_cases e : q = p
  · subst e
    rcases Int.lt_trichotomy o.cost z.cost with d | d | d
    · exact ⟨o, by rw [tbAdd_lt c h d]; simp [upd], by omega⟩
    · exact ⟨⟨z.cost, Ls.merge Ls.hopLt z.hops o.hops⟩, by rw [tbAdd_eq c h d]; simp [upd], Int.le_refl _⟩
    · exact ⟨z, by rw [tbAdd_gt c h d]; exact h, Int.le_refl _⟩
  · have up : ∀ x : Of, upd g p x q = some z := fun x => by simp [upd, e, h]
    refine ⟨z, ?_, Int.le_refl _⟩
    cases e2 : g p with
    | none => rw [tbAdd_new c e2]; exact up o
    | some old =>
      rcases Int.lt_trichotomy o.cost old.cost with d | d | d
      · rw [tbAdd_lt c e2 d]; exact up o
      · rw [tbAdd_eq c e2 d]; exact up _
      · rw [tbAdd_gt c e2 d]; exact h
theorem tbAdd_hops {P : Ls.Hop → Prop} (hg : ∀ q x, g q = some x → ∀ h ∈ x.hops, P h) (ho : ∀ h ∈ o.hops, P h) : ∀ q x, tbAdd g p o q = some x → ∀ h ∈ x.hops, P h := by
  intro q x hx
  have up : ∀ z : Of, (∀ h ∈ z.hops, P h) → upd g p z q = some x → ∀ h ∈ x.hops, P h := by
    intro z hz h
    unfold upd at h
    split at h
    · cases h; exact hz
    · exact hg q x h
  by_cases c : 16777216 < o.cost
  · rw [tbAdd_big c] at hx; exact hg q x hx
  · cases e : g p with
    | none => rw [tbAdd_new c e] at hx; exact up o ho hx
    | some old =>
      rcases Int.lt_trichotomy o.cost old.cost with d | d | d
      · rw [tbAdd_lt c e d] at hx; exact up o ho hx
      · rw [tbAdd_eq c e d] at hx
        refine up _ (fun h hm => ?_) hx
        rcases (Ls.mem_merge _ _ _).1 hm with h1 | h1
        · exact hg p old e h h1
        · exact ho h h1
      · rw [tbAdd_gt c e d] at hx; exact hg q x hx
end

theorem ofK_best (area router : Int) (reach : List Rch) (db : List Lsa) {y : Rch} : ∀ k, k ≤ db.length → ∀ i, i < k → ∀ (hl : i < db.length), inK 3 router db[i] = true → wayF area db[i].router reach = some y → ¬ 16777216 < y.cost + db[i].cost →
    ∃ z, ofK area router reach db k (lsaPfx db[i]) = some z ∧ z.cost ≤ y.cost + db[i].cost
  | 0, _, i, hi, _, _, _, _ => absurd hi (by omega)
  | k + 1, hk, i, hi, hl, h1, h2, h3 => by
    rw [ofK_succ area router reach db (show k < db.length by omega)]
    unfold ofStep
    rcases Nat.lt_or_ge i k with h' | h'
    · obtain ⟨z, hz, hc⟩ := ofK_best area router reach db k (by omega) i h' hl h1 h2 h3
      split
      · cases e : wayF area (db[k]'(by omega)).router reach with
        | none => exact ⟨z, hz, hc⟩
        | some y' =>
          obtain ⟨z', hz', hc'⟩ := tbAdd_keep (lsaPfx (db[k]'(by omega))) (ofO (db[k]'(by omega)) y') hz
          exact ⟨z', hz', by omega⟩
      · exact ⟨z, hz, hc⟩
    · obtain rfl : i = k := by omega
      rw [if_pos h1, h2]
      exact tbAdd_self (o := ofO db[i] y) _ _ h3

theorem wayF_border {area router : Int} {l : List Rch} {y : Rch} (h : wayF area router l = some y) : y.border = true := by
  have := List.find?_some h
  simp [wayM] at this
  exact this.1.2

theorem ofK_hops (area router : Int) (reach : List Rch) (db : List Lsa) : ∀ k, k ≤ db.length → ∀ p x, ofK area router reach db k p = some x → ∀ h ∈ x.hops, ∃ y ∈ reach, usedP y h
  | 0, _, p, x, h => by cases h
  | k + 1, hk, p, x, h => by
    have ih := ofK_hops area router reach db k (by omega)
    rw [ofK_succ area router reach db (show k < db.length by omega)] at h
    unfold ofStep at h
    split at h
    · cases e : wayF area (db[k]'(by omega)).router reach with
      | none => rw [e] at h; exact ih p x h
      | some y =>
        rw [e] at h
        refine tbAdd_hops (P := fun h => ∃ y ∈ reach, usedP y h) ih (fun u hu => ?_) p x h
        have hm : u ∈ Ls.merge Ls.hopLt y.hops [] := hu
        rcases (Ls.mem_merge _ _ _).1 hm with h1 | h1
        · exact ⟨y, wayF_mem e, wayF_border e, h1⟩
        · cases h1
    · exact ih p x h

theorem routes_at {area : Int} {g : Ls.Pfx → Option Of} {l : List RtH} (hm : ∀ r, r ∈ l.map RtH.pure ↔ pfxOk r.pfx ∧ ∃ o, g r.pfx = some o ∧ r = orP area r.pfx o) {p : Ls.Pfx} {z : Of} (hp : pfxOk p) (hg : g p = some z) :
    (∃ y ∈ l, y.rt.pfx = p) ∧ ∀ y ∈ l, y.rt.pfx = p → y.rt.cost = z.cost := by
  constructor
  · have := (hm (orP area p z)).2 ⟨hp, z, hg, rfl⟩
    obtain ⟨y, hy, e⟩ := List.mem_map.1 this
    refine ⟨y, hy, ?_⟩
    have : y.pure.pfx = (orP area p z).pfx := by rw [e]
    exact this
  · intro y hy hp'
    obtain ⟨_, o, ho, e⟩ := (hm y.pure).1 (List.mem_map.2 ⟨y, hy, rfl⟩)
    have e1 : y.pure.pfx = p := hp'
    rw [e1, hg] at ho
    cases ho
    have : y.pure.cost = (orP area y.pure.pfx z).cost := congrArg Rp.cost e
    exact this

theorem routes_hops {area : Int} {g : Ls.Pfx → Option Of} {l : List RtH} (hm : ∀ r, r ∈ l.map RtH.pure ↔ pfxOk r.pfx ∧ ∃ o, g r.pfx = some o ∧ r = orP area r.pfx o) {P : Ls.Hop → Prop} (hg : ∀ p x, g p = some x → ∀ h ∈ x.hops, P h) : ∀ y ∈ l, ∀ h ∈ y.hops, P h := by
  intro y hy h hh
  obtain ⟨_, o, ho, e⟩ := (hm y.pure).1 (List.mem_map.2 ⟨y, hy, rfl⟩)
  have : y.pure.hops = (orP area y.pure.pfx o).hops := congrArg Rp.hops e
  have h2 : y.hops = o.hops := this
  rw [h2] at hh
  exact hg _ _ ho h hh

/-- a valid summary's prefix is what its header tells -/
theorem sum_pfx {d : LsaD} (h : OkD d) (ht : d.x.typ = 3) : lsaPfx d.x = ⟨d.x.id, d.x.len⟩ := by
  have := h.fit (.inl ht)
  unfold fitsB validP at this
  simp only [Bool.and_eq_true, decide_eq_true_eq] at this
  unfold lsaPfx
  rw [this.2]

end Go.Proofs.YtogdconliofblaaGreat
