import Derived.Test.YtddageahmgaigaaGreatLnk
namespace Go.Proofs.YtddageahmgaigaaGreat
open Go.RowKit

structure Pl where
  kind : Int
  id : Int
  data : Int
deriving DecidableEq

def plOf (x : Lnk) : Pl := ⟨x.kind, x.id, x.data⟩
def plLt (a b : Pl) : Prop := a.kind < b.kind ∨ a.kind = b.kind ∧ (a.id < b.id ∨ a.id = b.id ∧ a.data < b.data)

theorem cmpI_cases (a b : Int) : (a < b ∧ cmpI a b = -1) ∨ (b < a ∧ cmpI a b = 1) ∨ (a = b ∧ cmpI a b = 0) := by
  rcases Int.lt_trichotomy a b with h | h | h
  · exact .inl ⟨h, cmpI_lt h⟩
  · exact .inr (.inr ⟨h, cmpI_eq h⟩)
  · exact .inr (.inl ⟨h, cmpI_gt h⟩)

theorem lnk_cases (a b : Lnk) : (plLt (plOf a) (plOf b) ∧ lnkCmp a b = -1) ∨ (plLt (plOf b) (plOf a) ∧ lnkCmp a b = 1) ∨ (plOf a = plOf b ∧ lnkCmp a b = 0) := by
  unfold lnkCmp plLt plOf
  simp only [Pl.mk.injEq]
  rcases cmpI_cases a.kind b.kind with ⟨h1, e1⟩ | ⟨h1, e1⟩ | ⟨h1, e1⟩ <;> rcases cmpI_cases a.id b.id with ⟨h2, e2⟩ | ⟨h2, e2⟩ | ⟨h2, e2⟩ <;> rcases cmpI_cases a.data b.data with ⟨h3, e3⟩ | ⟨h3, e3⟩ | ⟨h3, e3⟩ <;>
    rw [e1, e2, e3] <;> simp only [orI] <;> simp <;> omega

theorem plLt_irr (a : Pl) : ¬ plLt a a := by unfold plLt; omega
theorem plLt_tr {a b c : Pl} (h : plLt a b) (k : plLt b c) : plLt a c := by unfold plLt at *; omega
theorem lnk_neg (a b : Lnk) : lnkCmp a b < 0 ↔ plLt (plOf a) (plOf b) := by
  rcases lnk_cases a b with ⟨h, e⟩ | ⟨h, e⟩ | ⟨h, e⟩ <;> rw [e]
  · exact ⟨fun _ => h, fun _ => by omega⟩
  · exact ⟨fun h => by omega, fun k => absurd (plLt_tr h k) (plLt_irr _)⟩
  · exact ⟨fun h => by omega, fun k => absurd (h ▸ k) (plLt_irr _)⟩
theorem lnk_ext {a b : Lnk} (h : plOf a = plOf b) (k : a.cost = b.cost) : a = b := by
  cases a; cases b; simp [plOf] at h k; simp [h, k]

def MinC (L : List Lnk) (p : Pl) (c : Int) : Prop := (∃ x ∈ L, plOf x = p ∧ x.cost = c) ∧ ∀ x ∈ L, plOf x = p → c ≤ x.cost

theorem MinC.one {L L' : List Lnk} {p : Pl} {c : Int} (h : MinC L p c) (e : ∀ x, x ∈ L ↔ x ∈ L') : MinC L' p c :=
  ⟨let ⟨x, h1, h2⟩ := h.1; ⟨x, (e x).1 h1, h2⟩, fun x hx => h.2 x ((e x).2 hx)⟩

structure CostsF (L : List Lnk) (f : Pl → Option Int) : Prop where
  some : ∀ p c, f p = some c → MinC L p c
  none : ∀ p, f p = none → ∀ x ∈ L, plOf x ≠ p

theorem CostsF.nil : CostsF [] (fun _ => Option.none) := ⟨(fun _ _ h => by cases h), (fun _ _ x h => by cases h)⟩

theorem CostsF.iff {L : List Lnk} {f : Pl → Option Int} (h : CostsF L f) (p : Pl) (c : Int) : f p = Option.some c ↔ MinC L p c := by
  refine ⟨h.some p c, fun k => ?_⟩
  cases e : f p with
  | none => obtain ⟨x, h1, h2, _⟩ := k.1; exact absurd h2 (h.none p e x h1)
  | some d =>
    obtain ⟨⟨x, x1, x2, x3⟩, k2⟩ := k
    obtain ⟨⟨y, y1, y2, y3⟩, m2⟩ := h.some p d e
    have a := k2 y y1 y2
    have b := m2 x x1 x2
    rw [show d = c from by omega]

theorem CostsF.put {L : List Lnk} {f : Pl → Option Int} (h : CostsF L f) (x : Lnk) (hx : ∀ c, f (plOf x) = Option.some c → x.cost < c) : CostsF (L ++ [x]) (fun p => if p = plOf x then Option.some x.cost else f p) := by
  refine ⟨fun p c hp => ?_, fun p hp y hy => ?_⟩
  · by_cases e : p = plOf x
    · subst e
      rw [if_pos rfl] at hp
      cases hp
      refine ⟨⟨x, by simp, rfl, rfl⟩, fun y hy e2 => ?_⟩
      rcases List.mem_append.1 hy with hy | hy
      · cases e3 : f (plOf x) with
        | none => exact absurd e2 (h.none _ e3 y hy)
        | some d => have := hx d e3; have := (h.some _ _ e3).2 y hy e2; omega
      · rw [List.mem_singleton.1 hy]; exact Int.le_refl _
    · rw [if_neg e] at hp
      obtain ⟨⟨y, y1, y2, y3⟩, k⟩ := h.some p c hp
      refine ⟨⟨y, List.mem_append_left _ y1, y2, y3⟩, fun z hz e2 => ?_⟩
      rcases List.mem_append.1 hz with hz | hz
      · exact k z hz e2
      · rw [List.mem_singleton.1 hz] at e2; exact absurd e2.symm e
  · by_cases e : p = plOf x
    · rw [if_pos e] at hp; cases hp
    · rw [if_neg e] at hp
      rcases List.mem_append.1 hy with hy | hy
      · exact h.none p hp y hy
      · rw [List.mem_singleton.1 hy]; exact fun z => e z.symm

theorem CostsF.keep {L : List Lnk} {f : Pl → Option Int} (h : CostsF L f) (x : Lnk) (c : Int) (hx : f (plOf x) = Option.some c) (hc : c ≤ x.cost) : CostsF (L ++ [x]) f := by
  refine ⟨fun p d hp => ?_, fun p hp y hy => ?_⟩
  · obtain ⟨⟨y, y1, y2, y3⟩, k⟩ := h.some p d hp
    refine ⟨⟨y, List.mem_append_left _ y1, y2, y3⟩, fun z hz e2 => ?_⟩
    rcases List.mem_append.1 hz with hz | hz
    · exact k z hz e2
    · rw [List.mem_singleton.1 hz] at e2 ⊢
      rw [e2, hp] at hx; cases hx; exact hc
  · rcases List.mem_append.1 hy with hy | hy
    · exact h.none p hp y hy
    · rw [List.mem_singleton.1 hy]; intro e; rw [e, hp] at hx; cases hx

def LinksOf (L out : List Lnk) : Prop := out.Pairwise (fun a b => plLt (plOf a) (plOf b)) ∧ ∀ x, x ∈ out ↔ MinC L (plOf x) x.cost

theorem lnks_eq : ∀ L L' : List Lnk, L.Pairwise (fun a b => plLt (plOf a) (plOf b)) → L'.Pairwise (fun a b => plLt (plOf a) (plOf b)) → (∀ x, x ∈ L ↔ x ∈ L') → L = L'
  | [], [], _, _, _ => rfl
  | [], y :: L', _, _, h => absurd ((h y).2 (by simp)) (by simp)
  | x :: L, [], _, _, h => absurd ((h x).1 (by simp)) (by simp)
  | x :: L, y :: L', h1, h2, h => by
    have hx := List.pairwise_cons.1 h1
    have hy := List.pairwise_cons.1 h2
    have e : x = y := by
      rcases List.mem_cons.1 ((h x).1 (by simp)) with e | e
      · exact e
      · rcases List.mem_cons.1 ((h y).2 (by simp)) with f | f
        · exact f.symm
        · exact absurd (plLt_tr (hx.1 y f) (hy.1 x e)) (plLt_irr _)
    subst e
    rw [lnks_eq L L' hx.2 hy.2 fun z => ?_]
    constructor
    · intro hz
      rcases List.mem_cons.1 ((h z).1 (List.mem_cons_of_mem _ hz)) with e | e
      · subst e; exact absurd (hx.1 z hz) (plLt_irr _)
      · exact e
    · intro hz
      rcases List.mem_cons.1 ((h z).2 (List.mem_cons_of_mem _ hz)) with e | e
      · subst e; exact absurd (hy.1 z hz) (plLt_irr _)
      · exact e

theorem LinksOf.one {L L' a b : List Lnk} (h : LinksOf L a) (k : LinksOf L' b) (e : ∀ x, x ∈ L ↔ x ∈ L') : a = b :=
  lnks_eq a b h.1 k.1 fun x => (h.2 x).trans ⟨fun m => (k.2 x).2 (m.one e), fun m => ((k.2 x).1 m).one fun z => (e z).symm⟩

theorem LinksOf.nil : LinksOf [] [] := ⟨List.Pairwise.nil, fun x => ⟨(fun h => by cases h), (fun ⟨⟨y, hy, _⟩, _⟩ => by cases hy)⟩⟩

def bestL (x y : Lnk) : Lnk := if y.cost < x.cost then y else x

def addR : Lnk → Bool → List Lnk → List Lnk
  | x, done, [] => if done then [] else [x]
  | x, done, y :: r =>
    if lnkCmp x y = 0 then addR (bestL x y) done r
    else if done = false ∧ lnkCmp x y < 0 then x :: y :: addR x true r
    else y :: addR x done r

theorem bestL_pl {x y : Lnk} (h : plOf x = plOf y) : plOf (bestL x y) = plOf x := by
  unfold bestL
  split
  · exact h.symm
  · rfl

theorem addR_lt : ∀ (r : List Lnk) (x : Lnk), (∀ y ∈ r, plLt (plOf x) (plOf y)) → addR x true r = r ∧ addR x false r = x :: r
  | [], x, _ => ⟨rfl, rfl⟩
  | y :: r, x, h => by
    have hy : lnkCmp x y < 0 := (lnk_neg x y).2 (h y (by simp))
    have ih := addR_lt r x fun z hz => h z (List.mem_cons_of_mem _ hz)
    unfold addR
    rw [if_neg (by omega), if_neg (by simp), if_neg (by omega), if_pos ⟨rfl, hy⟩, ih.1]
    exact ⟨rfl, rfl⟩

theorem addR_mem : ∀ (l : List Lnk) (x : Lnk), l.Pairwise (fun a b => plLt (plOf a) (plOf b)) →
    (addR x false l).Pairwise (fun a b => plLt (plOf a) (plOf b)) ∧ ∀ z, z ∈ addR x false l ↔ (z ∈ l ∧ plOf z ≠ plOf x) ∨ (z = x ∧ ∀ y ∈ l, plOf y = plOf x → x.cost ≤ y.cost) ∨ (z ∈ l ∧ plOf z = plOf x ∧ z.cost < x.cost)
  | [], x, _ => ⟨by simp [addR], fun z => by simp [addR]⟩
  | y :: r, x, h => by
    have hp := List.pairwise_cons.1 h
    rcases lnk_cases x y with ⟨h1, e⟩ | ⟨h1, e⟩ | ⟨h1, e⟩
    · have hlt : ∀ z ∈ y :: r, plLt (plOf x) (plOf z) := by
        intro z hz
        rcases List.mem_cons.1 hz with rfl | hz
        · exact h1
        · exact plLt_tr h1 (hp.1 z hz)
      have ne : ∀ z ∈ y :: r, plOf z ≠ plOf x := fun z hz e => plLt_irr _ (e ▸ hlt z hz)
      rw [(addR_lt (y :: r) x hlt).2]
      refine ⟨List.pairwise_cons.2 ⟨hlt, h⟩, fun z => ?_⟩
      constructor
      · intro hz
        rcases List.mem_cons.1 hz with rfl | hz
        · exact .inr (.inl ⟨rfl, fun y hy e => absurd e (ne y hy)⟩)
        · exact .inl ⟨hz, ne z hz⟩
      · rintro (⟨hz, _⟩ | ⟨rfl, _⟩ | ⟨hz, e, _⟩)
        · exact List.mem_cons_of_mem _ hz
        · exact List.mem_cons_self ..
        · exact absurd e (ne z hz)
    · have ih := addR_mem r x hp.2
      have e1 : addR x false (y :: r) = y :: addR x false r := by
        conv => lhs; unfold addR
        rw [if_neg (by omega), if_neg (by omega)]
      have ney : plOf y ≠ plOf x := fun z => plLt_irr _ (z ▸ h1)
      rw [e1]
      refine ⟨List.pairwise_cons.2 ⟨fun z hz => ?_, ih.1⟩, fun z => ?_⟩
      · rcases (ih.2 z).1 hz with ⟨a, _⟩ | ⟨rfl, _⟩ | ⟨a, _⟩
        · exact hp.1 z a
        · exact h1
        · exact hp.1 z a
      · rw [List.mem_cons, ih.2 z]
        constructor
        · rintro (rfl | ⟨a, b⟩ | ⟨rfl, a⟩ | ⟨a, b, c⟩)
          · exact .inl ⟨List.mem_cons_self .., ney⟩
          · exact .inl ⟨List.mem_cons_of_mem _ a, b⟩
          · refine .inr (.inl ⟨rfl, fun u hu eu => ?_⟩)
            rcases List.mem_cons.1 hu with rfl | hu
            · exact absurd eu ney
            · exact a u hu eu
          · exact .inr (.inr ⟨List.mem_cons_of_mem _ a, b, c⟩)
        · rintro (⟨a, b⟩ | ⟨rfl, a⟩ | ⟨a, b, c⟩)
          · rcases List.mem_cons.1 a with rfl | a
            · exact .inl rfl
            · exact .inr (.inl ⟨a, b⟩)
          · exact .inr (.inr (.inl ⟨rfl, fun u hu => a u (List.mem_cons_of_mem _ hu)⟩))
          · rcases List.mem_cons.1 a with rfl | a
            · exact .inl rfl
            · exact .inr (.inr (.inr ⟨a, b, c⟩))
    · have hlt : ∀ z ∈ r, plLt (plOf (bestL x y)) (plOf z) := fun z hz => by rw [bestL_pl h1, h1]; exact hp.1 z hz
      have e1 : addR x false (y :: r) = bestL x y :: r := by
        conv => lhs; unfold addR
        rw [if_pos (by omega), (addR_lt r _ hlt).2]
      have ne : ∀ z ∈ r, plOf z ≠ plOf x := fun z hz e => plLt_irr (plOf z) (by have := hlt z hz; rw [bestL_pl h1, ← e] at this; exact this)
      rw [e1]
      refine ⟨List.pairwise_cons.2 ⟨hlt, hp.2⟩, fun z => ?_⟩
      unfold bestL
      constructor
      · intro hz
        rcases List.mem_cons.1 hz with rfl | hz
        · split
          · rename_i hc
            exact .inr (.inr ⟨List.mem_cons_self .., h1.symm, hc⟩)
          · rename_i hc
            refine .inr (.inl ⟨rfl, fun u hu eu => ?_⟩)
            rcases List.mem_cons.1 hu with rfl | hu
            · omega
            · exact absurd eu (ne u hu)
        · exact .inl ⟨List.mem_cons_of_mem _ hz, ne z hz⟩
      · rintro (⟨a, b⟩ | ⟨rfl, a⟩ | ⟨a, b, c⟩)
        · rcases List.mem_cons.1 a with rfl | a
          · exact absurd h1.symm b
          · exact List.mem_cons_of_mem _ a
        · have := a y (List.mem_cons_self ..) h1.symm
          rw [if_neg (by omega)]; exact List.mem_cons_self ..
        · rcases List.mem_cons.1 a with rfl | a
          · rw [if_pos c]; exact List.mem_cons_self ..
          · exact absurd b (ne z a)

theorem min_ex : ∀ (L : List Lnk) (p : Pl), (∃ x ∈ L, plOf x = p) → ∃ m ∈ L, plOf m = p ∧ ∀ u ∈ L, plOf u = p → m.cost ≤ u.cost
  | [], _, ⟨x, hx, _⟩ => by cases hx
  | v :: L, p, ⟨x, hx, ex⟩ => by
    by_cases c : ∃ u ∈ L, plOf u = p
    · obtain ⟨m, m1, m2, m3⟩ := min_ex L p c
      by_cases c2 : plOf v = p ∧ v.cost < m.cost
      · refine ⟨v, by simp, c2.1, fun t ht et => ?_⟩
        rcases List.mem_cons.1 ht with rfl | ht
        · omega
        · have := m3 t ht et; omega
      · refine ⟨m, List.mem_cons_of_mem _ m1, m2, fun t ht et => ?_⟩
        rcases List.mem_cons.1 ht with rfl | ht
        · by_cases c3 : t.cost < m.cost
          · exact absurd ⟨et, c3⟩ c2
          · omega
        · exact m3 t ht et
    · rcases List.mem_cons.1 hx with rfl | hx
      · refine ⟨x, by simp, ex, fun t ht et => ?_⟩
        rcases List.mem_cons.1 ht with rfl | ht
        · omega
        · exact absurd ⟨t, ht, et⟩ c
      · exact absurd ⟨x, hx, ex⟩ c

theorem LinksOf.add {L l : List Lnk} (h : LinksOf L l) (x : Lnk) : LinksOf (L ++ [x]) (addR x false l) := by
  obtain ⟨h1, h2⟩ := addR_mem l x h.1
  refine ⟨h1, fun z => (h2 z).trans ?_⟩
  constructor
  · rintro (⟨a, b⟩ | ⟨rfl, a⟩ | ⟨a, b, c⟩)
    · obtain ⟨⟨u, u1, u2, u3⟩, k⟩ := (h.2 z).1 a
      refine ⟨⟨u, List.mem_append_left _ u1, u2, u3⟩, fun y hy e => ?_⟩
      rcases List.mem_append.1 hy with hy | hy
      · exact k y hy e
      · rw [List.mem_singleton.1 hy] at e; exact absurd e.symm b
    · refine ⟨⟨z, by simp, rfl, rfl⟩, fun y hy e => ?_⟩
      rcases List.mem_append.1 hy with hy | hy
      · -- the cheapest one of the place is in l
        rcases Int.lt_or_le y.cost z.cost with hc | hc
        · exfalso
          obtain ⟨m, m1, m2, m3⟩ := min_ex L (plOf z) ⟨y, hy, e⟩
          have ml : m ∈ l := (h.2 m).2 ⟨⟨m, m1, rfl, rfl⟩, fun u hu eu => m3 u hu (eu.trans m2)⟩
          have := a m ml m2
          have := m3 y hy e
          omega
        · exact hc
      · rw [List.mem_singleton.1 hy]; exact Int.le_refl _
    · obtain ⟨⟨u, u1, u2, u3⟩, k⟩ := (h.2 z).1 a
      refine ⟨⟨u, List.mem_append_left _ u1, u2, u3⟩, fun y hy e => ?_⟩
      rcases List.mem_append.1 hy with hy | hy
      · exact k y hy e
      · rw [List.mem_singleton.1 hy]; omega
  · rintro ⟨⟨u, u1, u2, u3⟩, k⟩
    rcases List.mem_append.1 u1 with u1 | u1
    · have zl : z ∈ l := (h.2 z).2 ⟨⟨u, u1, u2, u3⟩, fun y hy e => k y (List.mem_append_left _ hy) e⟩
      by_cases e : plOf z = plOf x
      · have := k x (by simp) e.symm
        by_cases e2 : z.cost = x.cost
        · refine .inr (.inl ⟨lnk_ext e e2, fun y hy ey => ?_⟩)
          obtain ⟨⟨t, t1, t2, t3⟩, _⟩ := (h.2 y).1 hy
          have := k t (List.mem_append_left _ t1) (t2.trans (ey.trans e.symm))
          omega
        · exact .inr (.inr ⟨zl, e, by omega⟩)
      · exact .inl ⟨zl, e⟩
    · have u1 := List.mem_singleton.1 u1
      subst u1
      refine .inr (.inl ⟨lnk_ext u2.symm u3.symm, fun y hy ey => ?_⟩)
      obtain ⟨⟨t, t1, t2, t3⟩, _⟩ := (h.2 y).1 hy
      have := k t (List.mem_append_left _ t1) (t2.trans (ey.trans u2))
      omega

end Go.Proofs.YtddageahmgaigaaGreat
