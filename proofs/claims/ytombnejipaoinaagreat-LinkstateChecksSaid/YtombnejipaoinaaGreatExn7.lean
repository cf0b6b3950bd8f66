/-
  The blocks that a drawn region's segment makes.
-/
/-
  What an operation sees is there, in whatever order.
-/
/-
  An operation's places, in whatever order.
-/
import Derived.Test.YtombnejipaoinaaGreatExn4
import Derived.Test.YtombnejipaoinaaGreatExc
namespace Go.Ex
open Go

section
variable {E : Env} {sz : Nat} {run : Oper → Tm → St → Option (Value × St)} {ops : Array Oper} {tm0 : Tm} {S0 : St} {st : Nat → DS} {vs : Nat → Value}

/-- operation j's own run: from the blocks h to S1 -/
structure Res (E : Env) (run : Oper → Tm → St → Option (Value × St)) (ops : Array Oper) (st : Nat → DS) (vs : Nat → Value) (j : Nat) (h : Tr VObj) (S1 : St) : Prop where
  op : ∃ o, ops[j]? = some o ∧ isPure E o.op = false ∧ isLoad o.op = false ∧ wantV ops (cutT (tmpsOf o ops) (st j).tm) o = some true ∧ run o (cutT (tmpsOf o ops) (st j).tm) ⟨h, (st j).C.n, BIG⟩ = some (vs j, S1)
  bar : barr E ops j = false
  view : (AllL ops j (st j) ∧ h = (st j).C.h) ∨ (¬ AllL ops j (st j) ∧ visible ((masks ops).getD j 0) (st j).L (st j).hm = some h)
  wm : (st j).C.n ≤ S1.wm
  n : S1.n = (st (j + 1)).C.n
theorem Res.uniq {j : Nat} {h h' : Tr VObj} {S1 S1' : St} (a : Res E run ops st vs j h S1) (b : Res E run ops st vs j h' S1') : h = h' ∧ S1 = S1' := by
  have e : h = h' := by
    rcases a.view with ⟨a1, a2⟩ | ⟨a1, a2⟩ <;> rcases b.view with ⟨b1, b2⟩ | ⟨b1, b2⟩
    · rw [a2, b2]
    · exact absurd a1 b1
    · exact absurd b1 a1
    · rw [a2] at b2; exact Option.some.inj b2
  subst e
  obtain ⟨o, h1, -, -, -, h2⟩ := a.op
  obtain ⟨o', g1, -, -, -, g2⟩ := b.op
  rw [h1] at g1; cases g1
  rw [h2] at g2
  cases g2
  exact ⟨rfl, rfl⟩

variable (hc : Ch E sz run ops tm0 S0 st vs)
include hc
/-- a segment's start -/
def SegAt (E : Env) (ops : Array Oper) (st : Nat → DS) (i0 : Nat) : Prop := i0 = 0 ∨ ∃ b, i0 = b + 1 ∧ Bar E ops st b
theorem Ch.seg0 {i0 : Nat} (h : SegAt E ops st i0) : (st i0).hm = (st i0).C.h ∧ (st i0).L = [] := by
  rcases h with rfl | ⟨b, rfl, ⟨o, h1, h2, h3, h4⟩, h5⟩
  · rw [hc.zero]; exact ⟨rfl, rfl⟩
  · have hk0 := hc.kind b o h1
    generalize vs b = v0 at hk0
    cases hk0 with
    | skip hw => rw [h4] at hw; cases hw
    | pure _ _ hp => rw [h2] at hp; cases hp
    | load t a s p _ _ _ ho => rw [ho] at h3; cases h3
    | barr _ _ _ _ _ _ _ _ h6 h7 => exact ⟨h6, h7⟩
    | other _ h S1 _ _ _ hb => rw [h5] at hb; cases hb
theorem Ch.made {i0 : Nat} (h0 : SegAt E ops st i0) (m : Nat) (hm : i0 ≤ m) (hN : m ≤ ops.size) (hb : ∀ k, i0 ≤ k → k < m → ¬ Bar E ops st k) :
    (∀ mk ∈ (st m).L, i0 ≤ mk.i ∧ mk.i < m ∧ mk.lo = (st mk.i).C.n ∧ mk.hi = (st (mk.i + 1)).C.n ∧ ∃ h S1, Res E run ops st vs mk.i h S1 ∧ mk.h = S1.h) ∧
    (∀ j, i0 ≤ j → j < m → (st j).C.n < (st (j + 1)).C.n → ∃ mk ∈ (st m).L, mk.i = j) ∧
    (∀ id o, (st m).C.h.get id = some o → (st i0).C.h.get id = some o ∨ ∃ j h S1, i0 ≤ j ∧ j < m ∧ Res E run ops st vs j h S1 ∧ (st j).C.n ≤ id ∧ id < (st (j + 1)).C.n ∧ S1.h.get id = some o) := by
  induction m with
  | zero =>
    have : i0 = 0 := by omega
    subst this
    rw [(hc.seg0 h0).2]
    exact ⟨fun _ h => (by cases h), fun j h1 h2 => (by omega), fun _ _ h => .inl h⟩
  | succ m ih =>
    by_cases c : i0 = m + 1
    · subst c
      rw [(hc.seg0 h0).2]
      exact ⟨fun _ h => (by cases h), fun j h1 h2 => (by omega), fun _ _ h => .inl h⟩
    · obtain ⟨a1, a2, a3⟩ := ih (by omega) (by omega) fun k h1 h2 => hb k h1 (by omega)
      have hj : ops[m]? = some (ops[m]'(by omega)) := Array.getElem?_eq_getElem (by omega)
      have same : (st (m + 1)).C = (st m).C → (st (m + 1)).L = (st m).L → _ := fun e1 e2 =>
        (⟨fun mk hk => by rw [e2] at hk; obtain ⟨b1, b2, b3⟩ := a1 mk hk; exact ⟨b1, by omega, b3⟩,
          fun j h1 h2 h3 => by
            rw [e2]
            by_cases cj : j = m
            · subst cj; rw [e1] at h3; omega
            · exact a2 j h1 (by omega) h3,
          fun id o hi => by
            rw [e1] at hi
            rcases a3 id o hi with q | ⟨j, h, S1, q1, q2, q3⟩
            · exact .inl q
            · exact .inr ⟨j, h, S1, q1, by omega, q3⟩⟩ : (∀ mk ∈ (st (m + 1)).L, i0 ≤ mk.i ∧ mk.i < m + 1 ∧ mk.lo = (st mk.i).C.n ∧ mk.hi = (st (mk.i + 1)).C.n ∧ ∃ h S1, Res E run ops st vs mk.i h S1 ∧ mk.h = S1.h) ∧
    (∀ j, i0 ≤ j → j < m + 1 → (st j).C.n < (st (j + 1)).C.n → ∃ mk ∈ (st (m + 1)).L, mk.i = j) ∧
    (∀ id o, (st (m + 1)).C.h.get id = some o → (st i0).C.h.get id = some o ∨ ∃ j h S1, i0 ≤ j ∧ j < m + 1 ∧ Res E run ops st vs j h S1 ∧ (st j).C.n ≤ id ∧ id < (st (j + 1)).C.n ∧ S1.h.get id = some o))
      have hk0 := hc.kind m _ hj
      generalize hv0 : vs m = v0 at hk0
      cases hk0 with
      | skip _ h1 _ h2 => exact same h1 h2
      | pure _ _ _ _ h1 _ h2 => exact same h1 h2
      | load t a s p _ _ _ _ _ _ _ _ h1 _ h2 => exact same h1 h2
      | barr _ hw hp hl hbb => exact absurd ⟨⟨_, hj, hp, hl, hw⟩, hbb⟩ (hb m (by omega) (by omega))
      | other _ h S1 hw hp hl hbb hv hrun hwm hn _ _ _ hk =>
        rcases hk with ⟨-, h4, h5⟩ | ⟨l, h5, h4, h6⟩
        · exact same h4 h5
        · have hres : Res E run ops st vs m h S1 := ⟨⟨_, hj, hp, hl, hw, by rw [hv0]; exact hrun⟩, hbb, hv, hwm, by rw [h4]⟩
          refine ⟨fun mk hmk => ?_, fun j h1 h2 h3 => ?_, fun id o hi => ?_⟩
          · rw [h6] at hmk
            rcases List.mem_cons.1 hmk with rfl | hmk
            · exact ⟨by show i0 ≤ m; omega, Nat.lt_succ_self m, rfl, by show S1.n = _; rw [h4], h, S1, hres, rfl⟩
            · obtain ⟨b1, b2, b3⟩ := a1 mk hmk
              exact ⟨b1, by omega, b3⟩
          · rw [h6]
            by_cases cj : j = m
            · subst cj; exact ⟨_, List.mem_cons_self .., rfl⟩
            · obtain ⟨mk, g1, g2⟩ := a2 j h1 (by omega) h3
              exact ⟨mk, List.mem_cons_of_mem _ g1, g2⟩
          · rw [h4] at hi
            rcases addAll_get _ _ _ _ hi with g | g
            · rcases collect_ok _ _ _ _ _ h5 _ g with c' | ⟨c1, c2, c3⟩
              · cases c'
              · exact .inr ⟨m, h, S1, by omega, by omega, hres, c1, by rw [h4]; exact c2, c3⟩
            · rcases a3 id o g with q | ⟨j, h', S1', q1, q2, q3⟩
              · exact .inl q
              · exact .inr ⟨j, h', S1', q1, by omega, q3⟩
end
end Go.Ex

namespace Go.Ex
open Go

section
variable {E : Env} {sz : Nat} {run : Oper → Tm → St → Option (Value × St)} {ops : Array Oper} {tm0 : Tm} {S0 : St} {st : Nat → DS} {vs : Nat → Value}

/-- what is there when the operations X are carried out, in the segment from i0 on -/
def Here (E : Env) (run : Oper → Tm → St → Option (Value × St)) (ops : Array Oper) (st : Nat → DS) (vs : Nat → Value) (i0 : Nat) (X : Nat → Prop) (id : Nat) (o : VObj) : Prop :=
  (st i0).C.h.get id = some o ∨ ∃ j h S1, i0 ≤ j ∧ X j ∧ Res E run ops st vs j h S1 ∧ (st j).C.n ≤ id ∧ id < (st (j + 1)).C.n ∧ S1.h.get id = some o

variable (hc : Ch E sz run ops tm0 S0 st vs)
include hc
/-- the state ahead of m, all those that made blocks being carried out -/
theorem Ch.here {i0 m : Nat} (h0 : SegAt E ops st i0) (hm : i0 ≤ m) (hN : m ≤ ops.size) (hb : ∀ k, i0 ≤ k → k < m → ¬ Bar E ops st k) {X : Nat → Prop}
    (hX : ∀ j, i0 ≤ j → j < m → (st j).C.n < (st (j + 1)).C.n → X j) {id : Nat} {o : VObj} (hi : (st m).C.h.get id = some o) : Here E run ops st vs i0 X id o := by
  rcases (hc.made h0 m hm hN hb).2.2 id o hi with q | ⟨j, h, S1, q1, q2, q3, q4, q5, q6⟩
  · exact .inl q
  · exact .inr ⟨j, h, S1, q1, hX j q1 q2 (by omega), q3, q4, q5, q6⟩
theorem Ch.sees {i0 m : Nat} (h0 : SegAt E ops st i0) (hm : i0 ≤ m) (hN : m < ops.size) (hb : ∀ k, i0 ≤ k → k < m → ¬ Bar E ops st k) {X : Nat → Prop} (hX : ∀ j, bitB ((masks ops).getD m 0) j = true → X j)
    {h : Tr VObj} {S1 : St} (hr : Res E run ops st vs m h S1) {id : Nat} {o : VObj} (hi : h.get id = some o) : Here E run ops st vs i0 X id o := by
  obtain ⟨a1, a2, a3⟩ := hc.made h0 m hm (by omega) hb
  rcases hr.view with ⟨v1, v2⟩ | ⟨-, v2⟩
  · subst v2
    refine hc.here h0 hm (by omega) hb (fun j h1 h2 h3 => ?_) hi
    obtain ⟨mk, g1, g2⟩ := a2 j h1 h2 h3
    have := List.all_eq_true.1 v1 mk g1
    rw [g2] at this
    exact hX j this
  · rcases visible_ok _ _ _ v2 id o hi with q | ⟨mk, q1, q2, q3, q4, q5⟩
    · rw [(hc.stay hm (by omega) hb).1, (hc.seg0 h0).1] at q
      exact .inl q
    · obtain ⟨b1, b2, b3, b4, h', S1', b5, b6⟩ := a1 mk q1
      exact .inr ⟨mk.i, h', S1', b1, hX _ q2, b5, by omega, by omega, by rw [← b6]; exact q5⟩
end
end Go.Ex

namespace Go.Ex
open Go

section
variable {E : Env} {sz : Nat} {run : Oper → Tm → St → Option (Value × St)} {ops : Array Oper} {tm0 : Tm} {S0 : St} {st : Nat → DS} {vs : Nat → Value}

/-- the places after the operations X -/
structure TI2 (ops : Array Oper) (sz : Nat) (tm0 : Tm) (vs : Nat → Value) (X : Nat → Prop) (D : Dm) (ts : Array Value) : Prop where
  size : ts.size = sz
  old : ∀ t v, tm0.get t = some v → (∀ j o, X j → ops[j]? = some o → o.dst ≠ some t) → ∃ r, ts[t]? = some r ∧ RV D v r
  wr : ∀ j o t, X j → ops[j]? = some o → o.dst = some t → ∃ r, ts[t]? = some r ∧ RV D (vs j) r
  gl : ∀ g, g < tm0.ng → ∃ l, D g = some l ∧ l.b = g ∧ l.sh = 0
theorem TI2.mono {X : Nat → Prop} {D D' : Dm} {ts : Array Value} (h : TI2 ops sz tm0 vs X D ts) (hd : D.le D') : TI2 ops sz tm0 vs X D' ts :=
  ⟨h.size, fun t v e hn => let ⟨r, a, b⟩ := h.old t v e hn; ⟨r, a, b.mono hd⟩, fun j o t hj ho hd' => let ⟨r, a, b⟩ := h.wr j o t hj ho hd'; ⟨r, a, b.mono hd⟩, fun g hg => let ⟨l, a, b⟩ := h.gl g hg; ⟨l, hd _ _ a, b⟩⟩

variable (hc : Ch E sz run ops tm0 S0 st vs) (hr : RegOK ops)
include hc hr
theorem Ch.places {X : Nat → Prop} {D : Dm} {ts : Array Value} (hT : TI2 ops sz tm0 vs X D ts) {i : Nat} {o : Oper} (hi : ops[i]? = some o) (hn : ¬ X i) (anc : ∀ j, bitB ((masks ops).getD i 0) j = true → X j) (desc : ∀ j, X j → bitB ((masks ops).getD j 0) i = false) :
    RTm D sz (cutT (tmpsOf o ops) (st i).tm) ts := by
  have hs : i < ops.size := (Array.getElem?_eq_some_iff.1 hi).1
  refine ⟨hT.size, fun t v e => ?_, fun g hg => hT.gl g ?_⟩
  · have e' : (cutL (st i).tm.t (tmpsOf o ops)).get t = some v := e
    rw [cutL_get] at e'
    by_cases ht : t ∈ tmpsOf o ops
    · rw [if_pos ht] at e'
      have e2 : (st i).tm.get t = some v := e'
      have fromOld : (∀ k p, ops[k]? = some p → p.dst = some t → ¬ X k ∧ ¬ k < i) → ∃ r, ts[t]? = some r ∧ RV D v r := fun hk => by
        rw [hc.keep i (by omega) t fun k p h1 h2 h3 => (hk k p h2 h3).2 h1] at e2
        exact hT.old t v e2 fun j p h1 h2 h3 => (hk j p h2 h3).1 h1
      by_cases hw : ∃ j p, ops[j]? = some p ∧ p.dst = some t ∧ j ≠ i
      · obtain ⟨j, p, h1, h2, h3⟩ := hw
        rcases hr.sees i j o p t hi h1 (Ne.symm h3) h2 ht with h4 | h4
        · have hlt := hr.lt i o hi j h4
          rw [hc.wrote hr h1 h2 i hlt (by omega)] at e2
          cases e2
          exact hT.wr j p t (anc j h4) h1 h2
        · have hlt := hr.lt j p h1 i h4
          have hnx : ¬ X j := fun x => by rw [desc j x] at h4; cases h4
          refine fromOld fun k q g1 g2 => ?_
          have : k = j := by
            by_cases c : k = j
            · exact c
            · exact absurd g2 (hr.one k j q p t g1 h1 c h2)
          subst this
          exact ⟨hnx, by omega⟩
      · refine fromOld fun k q g1 g2 => ?_
        have : k = i := by
          by_cases c : k = i
          · exact c
          · exact absurd ⟨k, q, g1, g2, c⟩ hw
        subst this
        exact ⟨hn, by omega⟩
    · rw [if_neg ht] at e'; cases e'
  · have := (hc.ng i (by omega)).1
    have h2 : (cutT (tmpsOf o ops) (st i).tm).ng = (st i).tm.ng := rfl
    rw [h2, this] at hg; exact hg
omit hc in
/-- one more is carried out -/
theorem TI2.put {X : Nat → Prop} {D : Dm} {ts : Array Value} (hT : TI2 ops sz tm0 vs X D ts) {i : Nat} {o : Oper} (hi : ops[i]? = some o) {r : Value} (hv : RV D (vs i) r) (hd : ∀ t, o.dst = some t → t < sz) :
    TI2 ops sz tm0 vs (fun j => X j ∨ j = i) D (match o.dst with | some d => ts.setIfInBounds d r | none => ts) := by
  cases hdst : o.dst with
  | none =>
    refine ⟨hT.size, fun t v e hn => hT.old t v e fun j p h => hn j p (.inl h), fun j p t h h1 h2 => ?_, hT.gl⟩
    rcases h with h | rfl
    · exact hT.wr j p t h h1 h2
    · rw [hi] at h1; cases h1; rw [hdst] at h2; cases h2
  | some d =>
    refine ⟨by simp [hT.size], fun t v e hn => ?_, fun j p t h h1 h2 => ?_, hT.gl⟩
    · have hne : d ≠ t := fun c => hn i o (.inr rfl) hi (by rw [hdst, c])
      obtain ⟨x, x1, x2⟩ := hT.old t v e fun j p h => hn j p (.inl h)
      exact ⟨x, by simp only; rw [Array.getElem?_setIfInBounds_ne hne]; exact x1, x2⟩
    · by_cases c : j = i
      · subst c
        rw [hi] at h1; cases h1
        rw [hdst] at h2; cases h2
        exact ⟨r, by simp [hT.size, hd d hdst], hv⟩
      · have h : X j := h.resolve_right c
        have hne : d ≠ t := fun c' => hr.one j i p o d h1 hi c hdst (by rw [c']; exact h2)
        obtain ⟨x, x1, x2⟩ := hT.wr j p t h h1 h2
        exact ⟨x, by simp only; rw [Array.getElem?_setIfInBounds_ne hne]; exact x1, x2⟩
end
end Go.Ex
