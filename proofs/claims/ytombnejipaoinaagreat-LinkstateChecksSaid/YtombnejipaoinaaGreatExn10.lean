/-
  A load, in whatever order.
-/
import Derived.Test.YtombnejipaoinaaGreatExn9
import Derived.Test.YtombnejipaoinaaGreatExg
namespace Go.Ex
set_option linter.unusedSectionVars false
open Go

section
variable {E : Env} {sz : Nat} {run : Oper → Tm → St → Option (Value × St)} {ops : Array Oper} {tm0 : Tm} {S0 : St} {st : Nat → DS} {vs : Nat → Value}
variable (hc : Ch E sz run ops tm0 S0 st vs)
include hc
/-- what is listed stays listed -/
theorem Ch.keep1 {j : Nat} {o : Oper} (hj : ops[j]? = some o) : (∀ x ∈ (st j).R, x ∈ (st (j + 1)).R) ∧ (∀ b ∈ (st j).B, b ∈ (st (j + 1)).B) := by
  have hk0 := hc.kind j o hj
  generalize vs j = v0 at hk0
  cases hk0 with
  | skip _ _ _ _ h1 h2 => rw [h1, h2]; exact ⟨fun _ h => h, fun _ h => h⟩
  | pure _ _ _ _ _ _ _ h1 h2 => rw [h1, h2]; exact ⟨fun _ h => h, fun _ h => h⟩
  | load t a s p _ _ _ _ _ _ _ _ _ _ _ h1 h2 => rw [h1, h2]; exact ⟨fun _ h => List.mem_cons_of_mem _ h, fun _ h => h⟩
  | barr _ _ _ _ _ _ _ _ _ _ h1 h2 => rw [h1, h2]; exact ⟨fun _ h => h, fun _ h => List.mem_cons_of_mem _ h⟩
  | other _ h S1 _ _ _ _ _ _ _ _ _ h1 h2 => rw [h1, h2]; exact ⟨fun _ h => h, fun _ h => h⟩
theorem Ch.keepRB {i j : Nat} (hij : i ≤ j) (hj : j ≤ ops.size) : (∀ x ∈ (st i).R, x ∈ (st j).R) ∧ (∀ b ∈ (st i).B, b ∈ (st j).B) := by
  induction j with
  | zero => have : i = 0 := by omega
            rw [this]; exact ⟨fun _ h => h, fun _ h => h⟩
  | succ j ih =>
    by_cases c : i = j + 1
    · rw [c]; exact ⟨fun _ h => h, fun _ h => h⟩
    · obtain ⟨a1, a2⟩ := ih (by omega) (by omega)
      obtain ⟨b1, b2⟩ := hc.keep1 (Array.getElem?_eq_getElem (show j < ops.size by omega))
      exact ⟨fun x h => b1 x (a1 x h), fun x h => b2 x (a2 x h)⟩
theorem Ch.barB {b : Nat} (hb : Bar E ops st b) : (b, (st b).C.h) ∈ (st (b + 1)).B ∧ ∀ x ∈ (st b).R, bitB ((masks ops).getD b 0) x.i = true ∨ ldV (st (b + 1)).C x.s x.a = some x.v := by
  obtain ⟨⟨o, h1, h2, h3, h4⟩, h5⟩ := hb
  have hk0 := hc.kind b o h1
  generalize vs b = v0 at hk0
  cases hk0 with
  | skip hw => rw [h4] at hw; cases hw
  | pure _ _ hp => rw [h2] at hp; cases hp
  | load t a s p _ _ _ ho => rw [ho] at h3; cases h3
  | barr _ _ _ _ _ _ _ hx _ _ _ hB => exact ⟨by rw [hB]; exact List.mem_cons_self .., hx⟩
  | other _ h S1 _ _ _ hb => rw [h5] at hb; cases hb

/-- a new variable -/
def Al (ops : Array Oper) (j : Nat) : Prop := ∃ o, ops[j]? = some o ∧ isAl o.op = true
omit hc in
theorem bar_al {b : Nat} (hb : Bar E ops st b) : ¬ Al ops b := by
  rintro ⟨o, h1, h2⟩
  have h := hb.2
  unfold barr at h
  rw [show ops.toList[b]? = some o by simpa using h1, Bool.and_eq_true] at h
  have h3 := h.1
  simp only [h2] at h3
  cases h3

/-- the load i: what the list's order gives it -/
structure Lo (E : Env) (ops : Array Oper) (st : Nat → DS) (i : Nat) (s : Bool × Nat) (p v : Value) : Prop where
  now : ldV (st i).C s p = some v
  before : ∀ b, b < i → Bar E ops st b → bitB ((masks ops).getD i 0) b = false → ldV (st b).C s p = some v
  after : ∀ b, i < b → b < ops.size → Bar E ops st b → bitB ((masks ops).getD b 0) i = false → ldV (st (b + 1)).C s p = some v
theorem Ch.lo {i : Nat} {s : Bool × Nat} {p v : Value} (hi : i < ops.size) (h1 : ldV (st i).C s p = some v) (h2 : ∀ b ∈ (st i).B, bitB ((masks ops).getD i 0) b.1 = true ∨ ldV ⟨b.2, 0, 0⟩ s p = some v) (h3 : (st (i + 1)).R = ⟨i, s, p, v⟩ :: (st i).R) : Lo E ops st i s p v := by
  refine ⟨h1, fun b hb hbar hn => ?_, fun b hb hN hbar hn => ?_⟩
  · have hm := (hc.keepRB (i := b + 1) (j := i) (by omega) (by omega)).2 _ (hc.barB hbar).1
    rcases h2 _ hm with h | h
    · rw [hn] at h; cases h
    · exact h
  · have hm : (⟨i, s, p, v⟩ : Rd) ∈ (st b).R := (hc.keepRB (i := i + 1) (j := b) (by omega) (by omega)).1 _ (by rw [h3]; exact List.mem_cons_self ..)
    rcases (hc.barB hbar).2 _ hm with h | h
    · rw [hn] at h; cases h
    · exact h

/-- a state of the segment that gives the load its value -/
theorem Ch.loadM {i i0 : Nat} {X : Nat → Prop} {s : Bool × Nat} {p v : Value} (hL : Lo E ops st i s p v) (hi : i < ops.size) (hload : ∀ o, ops[i]? = some o → isLoad o.op = true) (h0 : SegAt E ops st i0) (hN : i0 ≤ ops.size)
    (anc : ∀ j, bitB ((masks ops).getD i 0) j = true → X j) (desc : ∀ j, X j → bitB ((masks ops).getD j 0) i = false) (lo : ∀ j, j < i0 → Mem E ops st j → X j) (hiB : ∀ j, X j → Mem E ops st j → ¬ Al ops j → ∀ b, Bar E ops st b → i0 ≤ b → b ≤ j → False) :
    ∃ m, i0 ≤ m ∧ m ≤ ops.size ∧ (∀ k, i0 ≤ k → k < m → ¬ Bar E ops st k) ∧ ldV (st m).C s p = some v := by
  by_cases c : i < i0
  · rcases h0 with rfl | ⟨b, rfl, hb⟩
    · omega
    · have hne : i ≠ b := by
        rintro rfl
        obtain ⟨⟨o, g1, _, g3, _⟩, _⟩ := hb
        rw [hload o g1] at g3; cases g3
      exact ⟨b + 1, Nat.le_refl _, hN, fun k h1 h2 => by omega, hL.after b (by omega) (by omega) hb (desc b (lo b (by omega) hb.1))⟩
  · by_cases e : ∃ b, i0 ≤ b ∧ b < i ∧ Bar E ops st b
    · obtain ⟨b, h1, h2, h3, h4⟩ : ∃ b, i0 ≤ b ∧ b < i ∧ Bar E ops st b ∧ ∀ k, i0 ≤ k → k < b → ¬ Bar E ops st k := by
        obtain ⟨b, hb⟩ := e
        induction b using Nat.strongRecOn with
        | _ b ih =>
          by_cases q : ∃ k, i0 ≤ k ∧ k < b ∧ Bar E ops st k
          · obtain ⟨k, k1, k2, k3⟩ := q
            exact ih k k2 ⟨k1, by omega, k3⟩
          · exact ⟨b, hb.1, hb.2.1, hb.2.2, fun k k1 k2 k3 => q ⟨k, k1, k2, k3⟩⟩
      refine ⟨b, h1, by omega, h4, hL.before b h2 h3 ?_⟩
      cases q : bitB ((masks ops).getD i 0) b with
      | false => rfl
      | true => exact (hiB b (anc b q) h3.1 (bar_al h3) b h3 h1 (Nat.le_refl _)).elim
    · exact ⟨i, by omega, by omega, fun k h1 h2 h3 => e ⟨k, h1, h2, h3⟩, hL.now⟩
end

section
variable {P : Program} {sz : Nat} {run : Oper → Tm → St → Option (Value × St)} {ops : Array Oper} {tm0 : Tm} {S0 : St} {st : Nat → DS} {vs : Nat → Value} {H : Hooks}
variable (hc : Ch (envH P H) sz run ops tm0 S0 st vs)
include hc
theorem MI.load {B0 i0 m : Nat} {X : Nat → Prop} {D1 D : Dm} {w1 w : World} (h0 : SegAt (envH P H) ops st i0) (h1 : i0 ≤ m) (hN : m ≤ ops.size) (hb : ∀ k, i0 ≤ k → k < m → ¬ Bar (envH P H) ops st k) (hM : MI (envH P H) run ops st vs B0 i0 X D1 w1 D w)
    (hF : ∀ id, (st i0).C.n ≤ id → id < (st ops.size).C.n → ¬ Win ops st i0 X id → D1 id = none) {t : TypeId} {s : Bool × Nat} (hs : shp (envH P H) t = some s) {p r v : Value} (h : ldV (st m).C s p = some v) (hp : RV D p r) : ∃ u, (Instr.loadAt t r).run P w = .ok u w ∧ RV D v u := by
  obtain ⟨⟨id, off⟩, a1, a2⟩ := ob_some.1 h
  obtain ⟨⟨cs, e⟩, a3, a4⟩ := ob_some.1 a2
  obtain ⟨l, hl, -, -⟩ := adr_ok a1 hp
  simp only at hl a3
  have hrow : (st m).C.h.get id = some (.row cs e) := by
    obtain ⟨o, b1, b2⟩ := ob_some.1 a3
    cases o with
    | row cs' e' => simp only [Option.some.injEq, Prod.mk.injEq] at b2; obtain ⟨rfl, rfl⟩ := b2; exact b1
    | _ => simp at b2
  have here : Here (envH P H) run ops st vs i0 X id (.row cs e) := by
    rcases (hc.made h0 m h1 hN hb).2.2 id _ hrow with q | ⟨j, g, S1, q1, q2, q3, q4, q5, q6⟩
    · exact .inl q
    · refine .inr ⟨j, g, S1, q1, ?_, q3, q4, q5, q6⟩
      refine Classical.byContradiction fun hn => ?_
      have hw : ¬ Win ops st i0 X id := by
        rintro ⟨j', g1, g2, g3, g4, g5⟩
        rcases Nat.lt_trichotomy j j' with c | c | c
        · have := hc.mono (i := j + 1) (j := j') (by omega) (by omega); omega
        · subst c; exact hn g2
        · have := hc.mono (i := j' + 1) (j := j) (by omega) (by omega); omega
      have hd := hM.ext' hw
      have lo := hc.mono (i := i0) (j := j) q1 (by omega)
      have up := hc.mono (i := j + 1) (j := ops.size) (by omega) (Nat.le_refl _)
      rw [hF id (by omega) (by omega) hw] at hd
      rw [hl] at hd; cases hd
  obtain ⟨l', ob, b1, b2, b3⟩ := hM.blk id _ here
  have g1 : ∀ i, (Tr.nil.set (some (VObj.row cs e)) id).get i = if i = id then some (VObj.row cs e) else none := fun i => by rw [Tr.get_set]; rfl
  have hS : RS D ⟨Tr.nil.set (some (VObj.row cs e)) id, id + 1, 0⟩ w := by
    refine ⟨⟨fun i o hi => ?_, fun i j o o' k k' hi hj hk hk' _ => ?_⟩, fun i o hi => ?_⟩
    · rw [g1] at hi
      by_cases c : i = id
      · subst c; rw [if_pos rfl] at hi; cases hi; exact ⟨l', ob, b1, b2, b3⟩
      · rw [if_neg c] at hi; cases hi
    · rw [g1] at hi hj
      by_cases c : i = id
      · by_cases c2 : j = id
        · rw [c, c2]
        · rw [if_neg c2] at hj; cases hj
      · rw [if_neg c] at hi; cases hi
    · rw [g1] at hi
      by_cases c : i = id
      · show i < id + 1; omega
      · rw [if_neg c] at hi; cases hi
  refine ldV_ok hS hs (v := v) ?_ hp
  refine ob_some.2 ⟨(id, off), a1, ob_some.2 ⟨(cs, e), ?_, a4⟩⟩
  refine ob_some.2 ⟨.row cs e, ?_, rfl⟩
  show (Tr.nil.set (some (VObj.row cs e)) id).get id = _
  rw [g1, if_pos rfl]
end
end Go.Ex
