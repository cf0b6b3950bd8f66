/-
  Insert in plain words; a row of summaries that grows by keep.
-/
/-
  Active ranges in plain words: the reference's cost of a range is the program's.
-/
/-
  routingref33.Active.
-/
import Derived.Test.YtogdconliofblaaGreatKpw
import Derived.Test.YtogdconliofblaaGreatRgp
namespace Go.Proofs.YtogdconliofblaaGreat
open Go.RowKit

/-- x in its place -/
def insR (x : Lsa) : List Lsa → List Lsa
  | [] => [x]
  | y :: db => if kkCmp (lkOf x) (lkOf y) < 0 then x :: y :: db else if kkCmp (lkOf x) (lkOf y) = 0 then x :: db else y :: insR x db

theorem kk_rev {a b : Kk} (h : 0 < kkCmp a b) : kkCmp b a < 0 := by
  rw [kk_neg]
  have h1 : ¬ kkCmp a b < 0 := by omega
  have h2 : a ≠ b := fun e => by
    subst e
    have : kkCmp a a = 0 := by
      rcases Int.lt_trichotomy (kkCmp a a) 0 with c | c | c
      · rw [kk_neg] at c; omega
      · exact c
      · exfalso
        have : orI [cmpI a.typ a.typ, cmpI a.id a.id, cmpI a.len a.len, cmpI a.router a.router] = 0 := by simp [orI, cmpI]
        unfold kkCmp at c
        omega
    omega
  rw [kk_neg] at h1
  obtain ⟨a1, a2, a3, a4⟩ := a
  obtain ⟨b1, b2, b3, b4⟩ := b
  simp only [ne_eq, Kk.mk.injEq] at *
  omega
theorem kk_same {a b : Kk} (h : kkCmp a b = 0) : a = b := by
  refine kkCmp_zero (by omega) fun h2 => ?_
  have h1 : ¬ kkCmp a b < 0 := by omega
  rcases Decidable.em (a = b) with e | e
  · subst e; exact h1 h2
  · exfalso
    have h3 : cmpI a.typ b.typ = 0 ∧ cmpI a.id b.id = 0 ∧ cmpI a.len b.len = 0 ∧ cmpI a.router b.router = 0 := by
      unfold kkCmp at h
      by_cases z1 : cmpI a.typ b.typ = 0 <;> by_cases z2 : cmpI a.id b.id = 0 <;> by_cases z3 : cmpI a.len b.len = 0 <;> by_cases z4 : cmpI a.router b.router = 0 <;> simp_all [orI]
    have hz : ∀ x y : Int, cmpI x y = 0 → x = y := fun x y => by unfold cmpI; split <;> (try split) <;> intro h <;> omega
    apply e
    obtain ⟨a1, a2, a3, a4⟩ := a
    obtain ⟨b1, b2, b3, b4⟩ := b
    simp only [Kk.mk.injEq]
    exact ⟨hz _ _ h3.1, hz _ _ h3.2.1, hz _ _ h3.2.2.1, hz _ _ h3.2.2.2⟩

abbrev Asc (L : List Lsa) : Prop := L.Pairwise fun a b => kkCmp (lkOf a) (lkOf b) < 0

theorem insK_after (x : Lsa) : ∀ (m acc : List Lsa), (∀ z ∈ m, kkCmp (lkOf x) (lkOf z) < 0) → m.foldl (insStep x) (true, acc) = (true, acc ++ m)
  | [], acc, _ => by simp
  | z :: m, acc, h => by
    have hz := h z (by simp)
    rw [List.foldl_cons]
    have : insStep x (true, acc) z = (true, acc ++ [z]) := by
      unfold insStep
      simp only [Bool.true_eq_false, false_and, if_false]
      rw [if_neg (by omega)]
    rw [this, insK_after x m _ fun y hy => h y (by simp [hy])]
    simp

theorem insK_from (x : Lsa) : ∀ (db acc : List Lsa), Asc db → (if (db.foldl (insStep x) (false, acc)).1 = true then (db.foldl (insStep x) (false, acc)).2 else (db.foldl (insStep x) (false, acc)).2 ++ [x]) = acc ++ insR x db
  | [], acc, _ => by simp [insR]
  | y :: db, acc, h => by
    obtain ⟨h1, h2⟩ := List.pairwise_cons.1 h
    rw [List.foldl_cons]
    unfold insR
    rcases Int.lt_trichotomy (kkCmp (lkOf x) (lkOf y)) 0 with c | c | c
    · have e : insStep x (false, acc) y = (true, acc ++ [x] ++ [y]) := by
        unfold insStep
        have c1 : kkCmp (lkOf x) (lkOf y) ≤ 0 := by omega
        have c2 : ¬ kkCmp (lkOf x) (lkOf y) = 0 := by omega
        simp [c1, c2]
      rw [e, insK_after x db _ fun z hz => lk_tr _ _ _ c (h1 z hz), if_pos rfl, if_pos c]
      simp
    · have e : insStep x (false, acc) y = (true, acc ++ [x]) := by
        unfold insStep
        simp [c]
      have hk := kk_same c
      rw [e, insK_after x db _ fun z hz => by rw [hk]; exact h1 z hz]
      rw [if_pos rfl, if_neg (by omega), if_pos c]
      simp
    · have e : insStep x (false, acc) y = (false, acc ++ [y]) := by
        unfold insStep
        have c1 : ¬ kkCmp (lkOf x) (lkOf y) ≤ 0 := by omega
        have c2 : ¬ kkCmp (lkOf x) (lkOf y) = 0 := by omega
        simp [c1, c2]
      rw [e, insK_from x db _ h2, if_neg (by omega), if_neg (by omega)]
      simp

theorem insL_R {x : Lsa} {db : List Lsa} (h : Asc db) : insL x db = insR x db := by
  unfold insL insK
  rw [List.take_of_length_le (Nat.le_refl _), insK_from x db [] h]; simp

theorem insR_mem {x : Lsa} : ∀ {db : List Lsa}, Asc db → ∀ z, z ∈ insR x db ↔ z = x ∨ (z ∈ db ∧ lkOf z ≠ lkOf x)
  | [], _, z => by simp [insR]
  | y :: db, h, z => by
    obtain ⟨h1, h2⟩ := List.pairwise_cons.1 h
    unfold insR
    split
    · rename_i c
      have ne : ∀ u ∈ y :: db, lkOf u ≠ lkOf x := by
        intro u hu e
        have : kkCmp (lkOf x) (lkOf u) < 0 := by
          rcases List.mem_cons.1 hu with rfl | hu
          · exact c
          · exact lk_tr _ _ _ c (h1 u hu)
        rw [e] at this
        exact lk_irr x this
      rw [List.mem_cons]
      exact or_congr Iff.rfl ⟨fun hz => ⟨hz, ne z hz⟩, fun hz => hz.1⟩
    · split
      · rename_i c
        have hk := kk_same c
        have ne : ∀ u ∈ db, lkOf u ≠ lkOf x := by
          intro u hu e
          have := h1 u hu
          rw [← hk, e] at this
          exact lk_irr x this
        rw [List.mem_cons, List.mem_cons]
        constructor
        · rintro (e | hz)
          · exact .inl e
          · exact .inr ⟨.inr hz, ne z hz⟩
        · rintro (e | ⟨rfl | hz, hn⟩)
          · exact .inl e
          · exact absurd hk.symm hn
          · exact .inr hz
      · rename_i c1 c2
        have hy : lkOf y ≠ lkOf x := fun e => by
          apply c2
          have h3 : ¬ kkCmp (lkOf x) (lkOf y) < 0 := c1
          rcases Int.lt_trichotomy (kkCmp (lkOf x) (lkOf y)) 0 with c | c | c
          · exact absurd c h3
          · exact c
          · have := kk_rev c
            rw [e] at this
            exact absurd this (lk_irr x)
        rw [List.mem_cons, insR_mem h2 z, List.mem_cons]
        constructor
        · rintro (rfl | e | ⟨hz, hn⟩)
          · exact .inr ⟨.inl rfl, hy⟩
          · exact .inl e
          · exact .inr ⟨.inr hz, hn⟩
        · rintro (e | ⟨rfl | hz, hn⟩)
          · exact .inr (.inl e)
          · exact .inl rfl
          · exact .inr (.inr ⟨hz, hn⟩)

theorem insR_asc {x : Lsa} : ∀ {db : List Lsa}, Asc db → Asc (insR x db)
  | [], _ => by simp [insR, Asc]
  | y :: db, h => by
    obtain ⟨h1, h2⟩ := List.pairwise_cons.1 h
    unfold insR
    split
    · rename_i c
      refine List.pairwise_cons.2 ⟨fun z hz => ?_, h⟩
      rcases List.mem_cons.1 hz with rfl | hz
      · exact c
      · exact lk_tr _ _ _ c (h1 z hz)
    · split
      · rename_i c
        exact List.pairwise_cons.2 ⟨fun z hz => by rw [kk_same c]; exact h1 z hz, h2⟩
      · rename_i c1 c2
        refine List.pairwise_cons.2 ⟨fun z hz => ?_, insR_asc h2⟩
        rcases (insR_mem h2 z).1 hz with rfl | ⟨hz, _⟩
        · exact kk_rev (by omega)
        · exact h1 z hz

/-- the summaries of g and the boundary advertisements of h, in order -/
structure TbL (R : Int) (L : List Lsa) (g : Ls.Pfx → Option Int) (h : Int → Option Int) : Prop where
  asc : Asc L
  mem : ∀ x, x ∈ L ↔ (∃ p c, pfxOk p ∧ g p = some c ∧ x = sumL R p c) ∨ ∃ r c, u32Ok r ∧ h r = some c ∧ x = bndL R r c

theorem TbL.nil (R : Int) : TbL R [] (fun _ => none) (fun _ => none) := ⟨List.Pairwise.nil, fun x => ⟨fun h => by simp at h, by rintro (⟨p, c, _, h, _⟩ | ⟨r, c, _, h, _⟩) <;> cases h⟩⟩

theorem lk_sum_bnd (R R' : Int) (p : Ls.Pfx) (c : Int) (r : Int) (d : Int) : lkOf (sumL R p c) ≠ lkOf (bndL R' r d) := by simp [lkOf, sumL, bndL]

theorem leastF_cases {α : Type} [DecidableEq α] {f : α → Option Int} {x : α} {c : Int} (h : ∀ old, f x = some old → c < old) : leastF f x c = upd f x c := by
  cases e : f x with
  | none => exact leastF_none e
  | some old => exact leastF_lt e (h old e)

theorem TbL.sum {R : Int} {L L' : List Lsa} {g : Ls.Pfx → Option Int} {h : Int → Option Int} (T : TbL R L g h) {p : Ls.Pfx} (hp : pfxOk p) {c : Int} (K : KeepIs L (sumL R p c) L') : TbL R L' (leastF g p c) h := by
  have own : ∀ y ∈ L, lkOf y = lkOf (sumL R p c) → ∃ d, g p = some d ∧ y = sumL R p d := by
    intro y hy e
    rcases (T.mem y).1 hy with ⟨q, d, _, h1, rfl⟩ | ⟨r, d, _, _, rfl⟩
    · obtain rfl := sumL_key R _ _ _ _ e
      exact ⟨d, h1, rfl⟩
    · exact absurd e.symm (lk_sum_bnd R R p c r d)
  have old : ∀ d, g p = some d → sumL R p d ∈ L := fun d hd => (T.mem _).2 (.inl ⟨p, d, hp, hd, rfl⟩)
  rcases K with ⟨rfl, y, hy, hk, hc⟩ | ⟨rfl, K⟩
  · obtain ⟨d, hd, rfl⟩ := own y hy hk
    have hc : d ≤ c := hc
    rw [leastF_ge hd (by omega)]
    exact T
  · have up : leastF g p c = upd g p c := leastF_cases fun d hd => by
      rcases K with K | ⟨y, hy, hk, hc⟩
      · exact absurd (by rfl : lkOf (sumL R p d) = lkOf (sumL R p c)) (K _ (old d hd))
      · obtain ⟨d', hd', rfl⟩ := own y hy hk
        rw [hd] at hd'
        cases hd'
        have hc : ¬ d ≤ c := hc
        omega
    rw [up, insL_R T.asc]
    refine ⟨insR_asc T.asc, fun x => ?_⟩
    rw [insR_mem T.asc]
    constructor
    · rintro (rfl | ⟨hx, hn⟩)
      · exact .inl ⟨p, c, hp, by simp [upd], rfl⟩
      · rcases (T.mem x).1 hx with ⟨q, d, hq, h1, rfl⟩ | h2
        · have : q ≠ p := fun e => hn (by subst e; rfl)
          exact .inl ⟨q, d, hq, by simp [upd, this, h1], rfl⟩
        · exact .inr h2
    · rintro (⟨q, d, hq, h1, rfl⟩ | ⟨r, d, hr, h1, rfl⟩)
      · by_cases e : q = p
        · subst e
          have : c = d := by simpa [upd] using h1
          subst this
          exact .inl rfl
        · refine .inr ⟨(T.mem _).2 (.inl ⟨q, d, hq, by simpa [upd, e] using h1, rfl⟩), fun hk => e (sumL_key R _ _ _ _ hk)⟩
      · exact .inr ⟨(T.mem _).2 (.inr ⟨r, d, hr, h1, rfl⟩), fun hk => lk_sum_bnd R R p c r d hk.symm⟩

theorem TbL.bnd {R : Int} {L L' : List Lsa} {g : Ls.Pfx → Option Int} {h : Int → Option Int} (T : TbL R L g h) {p : Int} (hp : u32Ok p) {c : Int} (K : KeepIs L (bndL R p c) L') : TbL R L' g (leastF h p c) := by
  have own : ∀ y ∈ L, lkOf y = lkOf (bndL R p c) → ∃ d, h p = some d ∧ y = bndL R p d := by
    intro y hy e
    rcases (T.mem y).1 hy with ⟨q, d, _, h1, rfl⟩ | ⟨r, d, _, h1, rfl⟩
    · exact absurd e (lk_sum_bnd R R q d p c)
    · obtain rfl := bndL_key R _ _ _ _ e
      exact ⟨d, h1, rfl⟩
  have old : ∀ d, h p = some d → bndL R p d ∈ L := fun d hd => (T.mem _).2 (.inr ⟨p, d, hp, hd, rfl⟩)
  rcases K with ⟨rfl, y, hy, hk, hc⟩ | ⟨rfl, K⟩
  · obtain ⟨d, hd, rfl⟩ := own y hy hk
    have hc : d ≤ c := hc
    rw [leastF_ge hd (by omega)]
    exact T
  · have up : leastF h p c = upd h p c := leastF_cases fun d hd => by
      rcases K with K | ⟨y, hy, hk, hc⟩
      · exact absurd (by rfl : lkOf (bndL R p d) = lkOf (bndL R p c)) (K _ (old d hd))
      · obtain ⟨d', hd', rfl⟩ := own y hy hk
        rw [hd] at hd'
        cases hd'
        have hc : ¬ d ≤ c := hc
        omega
    rw [up, insL_R T.asc]
    refine ⟨insR_asc T.asc, fun x => ?_⟩
    rw [insR_mem T.asc]
    constructor
    · rintro (rfl | ⟨hx, hn⟩)
      · exact .inr ⟨p, c, hp, by simp [upd], rfl⟩
      · rcases (T.mem x).1 hx with h2 | ⟨q, d, hq, h1, rfl⟩
        · exact .inl h2
        · have : q ≠ p := fun e => hn (by subst e; rfl)
          exact .inr ⟨q, d, hq, by simp [upd, this, h1], rfl⟩
    · rintro (⟨r, d, hr, h1, rfl⟩ | ⟨q, d, hq, h1, rfl⟩)
      · exact .inr ⟨(T.mem _).2 (.inl ⟨r, d, hr, h1, rfl⟩), lk_sum_bnd R R r d p c⟩
      · by_cases e : q = p
        · subst e
          have : c = d := by simpa [upd] using h1
          subst this
          exact .inl rfl
        · refine .inr ⟨(T.mem _).2 (.inr ⟨q, d, hq, by simpa [upd, e] using h1, rfl⟩), fun hk => e (bndL_key R _ _ _ _ hk)⟩

theorem insR_len (x : Lsa) : ∀ db : List Lsa, (insR x db).length ≤ db.length + 1
  | [] => by simp [insR]
  | y :: db => by
    unfold insR
    have := insR_len x db
    split
    · simp
    · split <;> simp <;> omega
theorem KeepIs.len {L L' : List Lsa} {x : Lsa} (h : Asc L) (K : KeepIs L x L') : L'.length ≤ L.length + 1 := by
  rcases K with ⟨rfl, _⟩ | ⟨rfl, _⟩
  · omega
  · rw [insL_R h]; exact insR_len x L

end Go.Proofs.YtogdconliofblaaGreat

namespace Go.Proofs.YtogdconliofblaaGreat
open Go.RowKit

def maxO (o : Option Int) (c : Int) : Option Int := match o with
  | none => some c
  | some old => if old < c then some c else some old
def actStep (l : List Arg) (at' : Nat) (o : Option Int) (r : Rt) : Option Int := if tkK l r l.length = some at' then maxO o r.cost else o
def actK (l : List Arg) (at' : Nat) (rs : List RtH) (k : Nat) : Option Int := ((rs.map RtH.rt).take k).foldl (actStep l at') none
theorem actK_succ (l : List Arg) (at' : Nat) (rs : List RtH) {k : Nat} (c : k < rs.length) : actK l at' rs (k + 1) = actStep l at' (actK l at' rs k) rs[k].rt := by
  unfold actK
  rw [take_fold _ _ _ _ (by simpa using c), List.getElem_map]

theorem maxF_at (q : Int → Option Int) (i c : Int) : maxF q i c i = maxO (q i) c := by
  unfold maxO
  cases e : q i with
  | none => rw [maxF_none e]; simp [upd]
  | some old =>
    by_cases h : old < c
    · rw [maxF_lt e h]; simp [upd, h]
    · rw [maxF_ge e h]; simp [h, e]
theorem maxF_off {q : Int → Option Int} {i j c : Int} (h : j ≠ i) : maxF q i c j = q j := by
  cases e : q i with
  | none => rw [maxF_none e]; simp [upd, h]
  | some old =>
    by_cases h2 : old < c
    · rw [maxF_lt e h2]; simp [upd, h]
    · rw [maxF_ge e h2]

theorem rngK_at (l : List Arg) (r : Rt) (q : Int → Option Int) (j : Nat) : ∀ k, (rngK l r q k).2 (j : Int) = if j < k ∧ takB l (argAt l j) r = true then maxO (q j) r.cost else q j
  | 0 => by simp [rngK]
  | k + 1 => by
    have ih := rngK_at l r q j k
    unfold rngK
    by_cases c : takB l (argAt l k) r = true
    · rw [if_pos c]
      simp only
      by_cases e : j = k
      · subst e
        rw [maxF_at, ih, if_neg (by omega), if_pos ⟨by omega, c⟩]
      · rw [maxF_off (by omega), ih]
        by_cases h : j < k ∧ takB l (argAt l j) r = true
        · rw [if_pos h, if_pos ⟨by omega, h.2⟩]
        · rw [if_neg h, if_neg fun h2 => h ⟨by omega, h2.2⟩]
    · rw [if_neg c, ih]
      by_cases h : j < k ∧ takB l (argAt l j) r = true
      · rw [if_pos h, if_pos ⟨by omega, h.2⟩]
      · rw [if_neg h, if_neg fun h2 => h ⟨by
          rcases Nat.lt_or_ge j k with h3 | h3
          · exact h3
          · exact absurd (by rw [show k = j from by omega]; exact h2.2) c, h2.2⟩]

theorem agLt_trans {a b c : Arg} (h1 : agLt a b) (h2 : agLt b c) : agLt a c := by
  rcases h1 with h1 | ⟨e1, h1⟩ <;> rcases h2 with h2 | ⟨e2, h2⟩
  · exact .inl (by omega)
  · exact .inl (by omega)
  · exact .inl (by omega)
  · exact .inr ⟨by omega, Ls.pfxLin.tr _ _ _ h1 h2⟩
theorem args_lt {l : List Arg} (F : ArgsFine l) : ∀ d i, i + d + 1 < l.length → agLt (argAt l i) (argAt l (i + d + 1))
  | 0, i, h => by have := F.2 (i + 1) (by omega) h; simpa using this
  | d + 1, i, h => by
    have h1 := args_lt F d i (by omega)
    have h2 := F.2 (i + (d + 1) + 1) (by omega) h
    rw [Nat.add_sub_cancel] at h2
    exact agLt_trans h1 h2
theorem args_ne {l : List Arg} (F : ArgsFine l) {i j : Nat} (hi : i < j) (hj : j < l.length) : ¬ ((argAt l i).area = (argAt l j).area ∧ (argAt l i).pfx = (argAt l j).pfx) := by
  have h := args_lt F (j - i - 1) i (by omega)
  rw [show i + (j - i - 1) + 1 = j from by omega] at h
  rintro ⟨h1, h2⟩
  rcases h with h | ⟨_, h⟩
  · omega
  · rw [h2, Ls.pfxLin.irr] at h; cases h

theorem covT_true {g : Arg} {r : Rt} (h : covT g r = true) : g.area = r.area ∧ keepI r.pfx.addr g.pfx.len = g.pfx.addr := by
  unfold covT cv33 at h
  simp only [Bool.and_eq_true, decide_eq_true_eq] at h
  exact ⟨h.1.2, h.2.2⟩

theorem tkK_takB {l : List Arg} (F : ArgsFine l) {r : Rt} (hr : validP r.pfx = true) (j : Nat) : tkK l r l.length = some j ↔ j < l.length ∧ takB l (argAt l j) r = true := by
  have hv : ∀ i, i < l.length → validP (argAt l i).pfx = true := fun i hi => by rw [argAt_eq hi]; exact F.1 _ (List.getElem_mem hi)
  constructor
  · intro e
    obtain ⟨h1, h2⟩ := tkK_max _ _ e
    have hj := tkK_lt _ _ _ _ e
    refine ⟨hj, ?_⟩
    unfold takB
    rw [covB_T (hv j hj) hr, h1, Bool.true_and, Bool.not_eq_true', List.any_eq_false]
    intro o ho
    obtain ⟨i, hi, rfl⟩ := List.getElem_of_mem ho
    have h3 := h2 i hi
    rw [← argAt_eq hi]
    unfold lonB
    rw [covB_T (hv i hi) hr]
    cases e4 : covT (argAt l i) r with
    | false => simp
    | true => have := h3 e4; simp; omega
  · rintro ⟨hj, h⟩
    unfold takB at h
    rw [Bool.and_eq_true, Bool.not_eq_true', List.any_eq_false] at h
    obtain ⟨h1, h2⟩ := h
    rw [covB_T (hv j hj) hr] at h1
    cases e : tkK l r l.length with
    | none => rw [tkK_none _ e j hj] at h1; cases h1
    | some m =>
      obtain ⟨h3, h4⟩ := tkK_max _ _ e
      have hm := tkK_lt _ _ _ _ e
      have h5 := h4 j hj h1
      have h6 := h2 (argAt l m) (by rw [argAt_eq hm]; exact List.getElem_mem hm)
      unfold lonB at h6
      rw [covB_T (hv m hm) hr, h3] at h6
      simp at h6
      have hlen : (argAt l j).pfx.len = (argAt l m).pfx.len := by omega
      obtain ⟨a1, k1⟩ := covT_true h1
      obtain ⟨a2, k2⟩ := covT_true h3
      have hp : (argAt l j).pfx = (argAt l m).pfx := by
        have : (argAt l j).pfx.addr = (argAt l m).pfx.addr := by rw [← k1, ← k2, hlen]
        generalize (argAt l j).pfx = p at *
        generalize (argAt l m).pfx = q at *
        obtain ⟨p1, p2⟩ := p
        obtain ⟨q1, q2⟩ := q
        simp only at this hlen
        rw [this, hlen]
      rcases Nat.lt_trichotomy j m with c | c | c
      · exact absurd ⟨by omega, hp⟩ (args_ne F c hm)
      · rw [c]
      · exact absurd ⟨by omega, hp.symm⟩ (args_ne F c hj)

theorem rngK_isSome {l : List Arg} (F : ArgsFine l) {r : Rt} (hr : validP r.pfx = true) (q : Int → Option Int) : (rngK l r q l.length).1 = (tkK l r l.length).isSome := by
  cases e : tkK l r l.length with
  | some j =>
    obtain ⟨h1, h2⟩ := (tkK_takB F hr j).1 e
    exact rngK_taken l r q _ j h1 h2
  | none =>
    have key : ∀ k, k ≤ l.length → (rngK l r q k).1 = false := by
      intro k
      induction k with
      | zero => intro _; rfl
      | succ k ih =>
        intro hk
        unfold rngK
        by_cases c : takB l (argAt l k) r = true
        · have := (tkK_takB F hr k).2 ⟨by omega, c⟩
          rw [e] at this; cases this
        · rw [if_neg c]; exact ih (by omega)
    exact key _ (Nat.le_refl _)

/-- the reference's step for a route -/
theorem sumOne_ref {l : List Arg} (F : ArgsFine l) (into : Int) (s : SmS) {r : Rt} (hr : validP r.pfx = true) :
    sumOne l into s r = if useB into r = true then (if ownB into r (tkK l r l.length).isSome = true then leastF s.1 r.pfx r.cost else s.1, (rngK l r s.2 l.length).2) else s := by
  unfold sumOne
  rw [rngK_isSome F hr]

theorem act_sum {l : List Arg} (F : ArgsFine l) (into : Int) {rs : List RtH} (hr : ∀ y ∈ rs, validP y.rt.pfx = true) (j : Nat) :
    actK l j (rs.filter fun y => useB into y.rt) (rs.filter fun y => useB into y.rt).length = (sumK l into rs rs.length).2 (j : Int) := by
  unfold actK
  rw [List.take_of_length_le (by simp), sumK_all]
  have key : ∀ (m : List RtH), (∀ y ∈ m, validP y.rt.pfx = true) → ∀ s : SmS, ((m.filter fun y => useB into y.rt).map RtH.rt).foldl (actStep l j) (s.2 j) = ((m.map RtH.rt).foldl (sumOne l into) s).2 (j : Int) := by
    intro m
    induction m with
    | nil => intro _ s; rfl
    | cons y m ih =>
      intro hm s
      have ih' := fun s => ih (fun z hz => hm z (List.mem_cons_of_mem _ hz)) s
      rw [List.map_cons, List.foldl_cons, ← ih']
      cases u : useB into y.rt with
      | false =>
        rw [List.filter_cons_of_neg (by simp [u])]
        have : sumOne l into s y.rt = s := by unfold sumOne; rw [if_neg (by simp [u])]
        rw [this]
      | true =>
        rw [List.filter_cons_of_pos (by simpa using u), List.map_cons, List.foldl_cons]
        have : (sumOne l into s y.rt).2 (j : Int) = actStep l j (s.2 j) y.rt := by
          unfold sumOne
          rw [if_pos u]
          simp only
          rw [rngK_at]
          unfold actStep
          have h1 := tkK_takB F (hm y (by simp)) j
          by_cases c : tkK l y.rt l.length = some j
          · rw [if_pos (h1.1 c), if_pos c]
          · rw [if_neg fun h => c (h1.2 h), if_neg c]
        rw [this]
  exact key rs hr (fun _ => none, fun _ => none)

/-- the ranges' part of the table -/
def rgStep (l : List Arg) (into : Int) (q : Int → Option Int) (g : Ls.Pfx → Option Int) (i : Nat) : Ls.Pfx → Option Int :=
  match q (i : Int) with
  | none => g
  | some c => if (argAt l i).adv = true ∧ (argAt l i).area ≠ into then leastF g (argAt l i).pfx c else g
def rgK (l : List Arg) (into : Int) (q : Int → Option Int) (g : Ls.Pfx → Option Int) : Nat → Ls.Pfx → Option Int
  | 0 => g
  | i + 1 => rgStep l into q (rgK l into q g i) i

theorem rgK_min (l : List Arg) (into : Int) (q : Int → Option Int) (g : Ls.Pfx → Option Int) : ∀ k, MinF (fun p c => g p = some c ∨ ∃ i : Nat, i < k ∧ (argAt l i).adv = true ∧ (argAt l i).area ≠ into ∧ (argAt l i).pfx = p ∧ q i = some c) (rgK l into q g k)
  | 0 => (MinF.self g).congr fun p c => ⟨fun h => .inl h, fun h => by
      rcases h with h | ⟨i, hi, _⟩
      · exact h
      · omega⟩
  | k + 1 => by
    have ih := rgK_min l into q g k
    have skip : (¬ ∃ c, q (k : Int) = some c ∧ (argAt l k).adv = true ∧ (argAt l k).area ≠ into) → MinF (fun p c => g p = some c ∨ ∃ i : Nat, i < k + 1 ∧ (argAt l i).adv = true ∧ (argAt l i).area ≠ into ∧ (argAt l i).pfx = p ∧ q i = some c) (rgK l into q g k) := by
      intro hn
      refine ih.congr fun p c => or_congr Iff.rfl ⟨?_, ?_⟩
      · rintro ⟨i, hi, h⟩; exact ⟨i, by omega, h⟩
      · rintro ⟨i, hi, h1, h2, h3, h4⟩
        rcases Nat.lt_or_ge i k with h' | h'
        · exact ⟨i, h', h1, h2, h3, h4⟩
        · obtain rfl : i = k := by omega
          exact absurd ⟨c, h4, h1, h2⟩ hn
    show MinF _ (rgStep l into q (rgK l into q g k) k)
    unfold rgStep
    cases e : q (k : Int) with
    | none => exact skip (by rintro ⟨c, h, _⟩; rw [e] at h; cases h)
    | some c =>
      by_cases a : (argAt l k).adv = true ∧ (argAt l k).area ≠ into
      · simp only [if_pos a]
        refine (ih.add (argAt l k).pfx c).congr fun p d => ?_
        constructor
        · rintro ((h | ⟨i, hi, h⟩) | ⟨rfl, rfl⟩)
          · exact .inl h
          · exact .inr ⟨i, by omega, h⟩
          · exact .inr ⟨k, by omega, a.1, a.2, rfl, e⟩
        · rintro (h | ⟨i, hi, h1, h2, h3, h4⟩)
          · exact .inl (.inl h)
          · rcases Nat.lt_or_ge i k with h' | h'
            · exact .inl (.inr ⟨i, h', h1, h2, h3, h4⟩)
            · obtain rfl : i = k := by omega
              rw [e] at h4
              cases h4
              exact .inr ⟨h3.symm, rfl⟩
      · simp only [if_neg a]
        exact skip (by rintro ⟨d, _, h⟩; exact a h)

/-- the end: what the reference has is what the program has -/
theorem TbL.is {C : Cfg} {lr : List Arg} {into : Int} {rs : List RtH} {l : List Rch} {L : List Lsa} (T : TbL C.router L (rgK lr into (sumK lr into rs rs.length).2 (sumK lr into rs rs.length).1 lr.length) (bndK C.router into l l.length)) : SuIs C lr into rs l L :=
  ⟨T.asc, _, rgK_min _ _ _ _ _, T.mem⟩

end Go.Proofs.YtogdconliofblaaGreat

namespace Go.Proofs.YtogdconliofblaaGreat
open Go.RowKit

theorem actStep_off {l : List Arg} {at' : Nat} {o : Option Int} {r : Rt} (h : tkK l r l.length ≠ some at') : actStep l at' o r = o := if_neg h
theorem actStep_on {l : List Arg} {at' : Nat} {o : Option Int} {r : Rt} (h : tkK l r l.length = some at') : actStep l at' o r = maxO o r.cost := if_pos h

set_option maxHeartbeats 8000000 in
set_option maxRecDepth 100000 in
theorem active_calls (w : World) (v : Value) (l : List Arg) (h : RngsAt w v l) (ok : ∀ o ∈ l, validP o.pfx = true) (at' : Nat) (vr : Value) (rs : List RtH) (hr : RoutesAt w vr rs) (okr : ∀ y ∈ rs, OkP y.rt.pfx) :
    Calls Tryz.prog 44 #[v, .int .i64 (at' : Int), vr] w fun e w' => e = .returned (.tuple #[.int .i64 ((actK l at' rs rs.length).getD 0), .bool (actK l at' rs rs.length).isSome]) ∧ Gr w w' := by
  have TK := Lib.hid (fun W (hb : Below w.heap.size w W) r okr => taker_calls W v l (h.below hb) ok r okr)
  obtain ⟨ad, cap, rfl, hlen, hc⟩ := hr.get
  have HC := Lib.hid hc
  have OKR := Lib.hid okr
  clear h hr hc ok okr
  go_enter Tryz.func44, Tryz.ntmps44
  go_wp2_with fail
  go_loopw [8, 9, 10] (fun cv ov iv wr => ∃ k : Nat, iv = .int .i64 k ∧ cv = .int .i64 ((actK l at' rs k).getD 0) ∧ ov = .bool (actK l at' rs k).isSome ∧ k ≤ rs.length ∧ Hid (Gr w wr)) (fun _ _ i _ => rs.length - (intOf i).toNat)
  case atStart => exact ⟨0, rfl, rfl, rfl, Nat.zero_le _, Lib.hid (Gr.refl _)⟩
  case round =>
    obtain ⟨k, rfl, rfl, rfl, hk, GG⟩ := hrel
    by_cases c : k < rs.length
    · obtain ⟨b, off, rfl, hb0, hcc⟩ := HC.out (by omega)
      obtain ⟨d0, d1, d2, d3, d4, d5, d6, d7, d8⟩ := (hcc k c).below GG.out.b hb0
      have TC := Lib.hid (TK.out wr GG.out.b rs[k].rt (OKR.out _ (List.getElem_mem c)))
      have ST : Hid (actK l at' rs (k + 1) = actStep l at' (actK l at' rs k) rs[k].rt) := Lib.hid (actK_succ l at' rs c)
      have KC := Lib.hid c
      have n0 : (0 : Int) ≤ (k : Int) := by omega
      have n1 : (k : Int) < (rs.length : Int) := by omega
      have n3 : ((k : Int)).toNat = k := by omega
      clear hcc
      generalize rs[k] = y at *
      clear c
      generalize actK l at' rs k = o at *
      have TF := Lib.hid (fun (h : tkK l y.rt l.length ≠ some at') => ST.out.trans (actStep_off h))
      have TO := Lib.hid (fun (h : tkK l y.rt l.length = some at') => ST.out.trans (actStep_on h))
      generalize htk : tkK l y.rt l.length = tk at *
      clear htk
      obtain ⟨⟨⟨xa, xl⟩, xproto, xarea, xcost, xsecond, xcost2, xtag, xha, xhn, xhc⟩, hops⟩ := y
      simp only [rtE] at d0 d1 d2 d3 d4 d5 d6 d7 d8 TC TO
      go_wp2_with fail
      refine TC.out.mono ?_
      rintro e w1 ⟨rfl, G1⟩
      have GZ := Lib.hid (GG.out.trans G1)
      have d4 := bcell G1.b d4
      clear d0 d1 d2 d3 d5 d6 d7 d8 TC GG G1
      cases tk with
      | none =>
        have c1 : ((-1 : Int) == (at' : Int)) = false := by simp <;> omega
        simp only [tkI]
        have NX := Lib.hid (TF.out (by simp))
        clear ST TF TO d4
        go_wp2_with fail
        go_roundw
        case rel => exact ⟨k + 1, by go_num, by rw [NX.out] <;> rfl, by rw [NX.out] <;> rfl, KC.out, GZ⟩
        case measure => simp [intOf]; have := KC.out; omega
      | some j =>
        simp only [tkI]
        by_cases hj : j = at'
        · subst hj
          have c1 : ((j : Int) == (j : Int)) = true := by simp
          cases o with
          | none =>
            simp only [Option.getD_none, Option.isSome_none]
            have NX := Lib.hid (TO.out rfl)
            clear ST TF TO
            go_wp2_with fail
            go_roundw
            case rel => exact ⟨k + 1, by go_num, by rw [NX.out] <;> rfl, by rw [NX.out] <;> rfl, KC.out, GZ⟩
            case measure => simp [intOf]; have := KC.out; omega
          | some old =>
            simp only [Option.getD_some, Option.isSome_some]
            by_cases hc : old < xcost
            · have c2 : decide (old < xcost) = true := decide_eq_true hc
              have NX := Lib.hid ((TO.out rfl).trans (show maxO (some old) xcost = some xcost by unfold maxO; exact if_pos hc))
              clear ST TF TO hc
              go_wp2_with fail
              go_roundw
              case rel => exact ⟨k + 1, by go_num, by rw [NX.out] <;> rfl, by rw [NX.out] <;> rfl, KC.out, GZ⟩
              case measure => simp [intOf]; have := KC.out; omega
            · have c2 : decide (old < xcost) = false := decide_eq_false hc
              have NX := Lib.hid ((TO.out rfl).trans (show maxO (some old) xcost = some old by unfold maxO; exact if_neg hc))
              clear ST TF TO hc
              go_wp2_with fail
              go_roundw
              case rel => exact ⟨k + 1, by go_num, by rw [NX.out] <;> rfl, by rw [NX.out] <;> rfl, KC.out, GZ⟩
              case measure => simp [intOf]; have := KC.out; omega
        · have c1 : ((j : Int) == (at' : Int)) = false := by simp <;> omega
          have NX := Lib.hid (TF.out (fun h => hj (Option.some.inj h)))
          clear ST TF TO d4 hj
          go_wp2_with fail
          go_roundw
          case rel => exact ⟨k + 1, by go_num, by rw [NX.out] <;> rfl, by rw [NX.out] <;> rfl, KC.out, GZ⟩
          case measure => simp [intOf]; have := KC.out; omega
    · obtain rfl : k = rs.length := by omega
      go_wp2_with fail
      first | go_ret2 | go_ret
      exact ⟨rfl, GG.out⟩

end Go.Proofs.YtogdconliofblaaGreat
