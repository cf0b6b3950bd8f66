/-
  A drawn region, in whatever order.
-/
/-
  A drawn region: whatever order is drawn, the list's order tells what comes of it.
-/
/-
  The evaluator is right: a closed run that it tells is a run of the model.
-/
/-
  A closed run told in pieces: what is kept between two pieces is written out.
-/
/-
  A call that is told in pieces, and the answers that are known from it.
-/
import Derived.Test.YtombnejipaoinaaGreatExn10
import Derived.Test.YtombnejipaoinaaGreatExm
import Derived.CallsIn
import Derived.Below
namespace Go.Ex
set_option linter.unusedSectionVars false
open Go

theorem tset_eq (ts : Array Value) (r : Value) (d : Option Tmp) : (match d with | some d => ts.setIfInBounds d r | none => ts) = tset ts r d := by cases d <;> rfl

section
variable {P : Program} {k sz : Nat} {ops : Array Oper} {tm0 : Tm} {S0 : St} {st : Nat → DS} {vs : Nat → Value} {H : Hooks}

/-- the operations X have been carried out; i0: where the segment begins -/
structure Inv (P : Program) (H : Hooks) (k sz : Nat) (ops : Array Oper) (tm0 : Tm) (S0 : St) (st : Nat → DS) (vs : Nat → Value) (D0 : Dm) (w0 : World) (i0 : Nat) (X : Nat → Prop) (D1 : Dm) (w1 : World) (D : Dm) (a : Act) (w : World) : Prop where
  down : ∀ i o, X i → ops[i]? = some o → ∀ e ∈ o.after.toList, eB e = true → X e.on
  seg : SegAt (envH P H) ops st i0
  le0 : i0 ≤ ops.size
  lo : ∀ j, j < i0 → Mem (envH P H) ops st j → X j
  hi : ∀ j, X j → Mem (envH P H) ops st j → ¬ Al ops j → ∀ b, Bar (envH P H) ops st b → i0 ≤ b → b ≤ j → False
  tmps : TI2 ops sz tm0 vs X D a.tmps
  mks : MK D tm0.mks a.defers
  rs : RS D1 (st i0).C w1
  fo : FO ops st D0 S0 w0 i0 X D1 (st i0).C w1
  free : ∀ id, (st i0).C.n ≤ id → id < (st ops.size).C.n → ¬ Win ops st i0 X id → D1 id = none
  mi : MI (envH P H) (opX (envH P H) k) ops st vs w0.heap.size i0 X D1 w1 D w

variable (hc : Ch (envH P H) sz (opX (envH P H) k) ops tm0 S0 st vs) (hr : RegOK ops)
include hc hr

omit hc hr in
theorem Win.mono {i0 : Nat} {X Y : Nat → Prop} (h : ∀ j, X j → Y j) {id : Nat} (hw : ¬ Win ops st i0 Y id) : ¬ Win ops st i0 X id := fun ⟨j, g1, g2, g3⟩ => hw ⟨j, g1, h j g2, g3⟩
omit hc hr in
theorem FO.mono {D0 : Dm} {w0 : World} {i0 : Nat} {X Y : Nat → Prop} {D : Dm} {S : St} {w : World} (h : ∀ j, X j → Y j) (hF : FO ops st D0 S0 w0 i0 X D S w) : FO ops st D0 S0 w0 i0 Y D S w :=
  ⟨hF.n, fun id a b => hF.ext id a (Win.mono h b), hF.le, hF.size, hF.os, hF.tape, hF.output, hF.out, hF.img, hF.wm, hF.old⟩

/-- one more operation -/
theorem Inv.step (ho : OpOK P H k) {D0 : Dm} {w0 : World} (hG : GL P D0) {i0 : Nat} {X : Nat → Prop} {D1 D : Dm} {w1 w : World} {a : Act} (I : Inv P H k sz ops tm0 S0 st vs D0 w0 i0 X D1 w1 D a w) {i : Nat} {o : Oper} (hi : ops[i]? = some o) (hn : ¬ X i)
    (hrdy : ∀ e ∈ o.after.toList, eB e = true → X e.on) {rr : Option Nat} {m : Nat} {K : Act → World → Prop} {Q : Exit → Act → World → Prop}
    (hK : ∀ i0' D1' w1' D' a' w', Inv P H k sz ops tm0 S0 st vs D0 w0 i0' (fun j => X j ∨ j = i) D1' w1' D' a' w' → K a' w') : wpOpIn (FF rr) m P ops Q i K a w := by
  have hs : i < ops.size := (Array.getElem?_eq_some_iff.1 hi).1
  have anc : ∀ j, bitB ((masks ops).getD i 0) j = true → X j := hr.anc I.down i o hi hrdy
  have desc : ∀ j, X j → bitB ((masks ops).getD j 0) i = false := fun j hj => by
    cases c : bitB ((masks ops).getD j 0) i with
    | false => rfl
    | true =>
      exfalso
      by_cases hjs : j < ops.size
      · have e := Array.getElem?_eq_getElem hjs
        exact hn (hr.anc I.down j _ e (I.down j _ hj e) i c)
      · have : (masks ops).getD j 0 = 0 := by
          rw [List.getD_eq_getElem?_getD, List.getElem?_eq_none (by have := masksG_len ops.toList []; simp at this; unfold masks; omega)]; rfl
        rw [this] at c; simp [bitB] at c
  have hT := hc.places hr I.tmps hi hn anc desc
  have hle : D0.le D := I.fo.le.trans I.mi.le
  have upX : ∀ j, X j → (X j ∨ j = i) := fun _ h => .inl h
  have down' : ∀ j p, (X j ∨ j = i) → ops[j]? = some p → ∀ e ∈ p.after.toList, eB e = true → (X e.on ∨ e.on = i) := fun j p hj hp e he hb => by
    rcases hj with hj | rfl
    · exact .inl (I.down j p hj hp e he hb)
    · rw [hi] at hp; cases hp; exact .inl (hrdy e he hb)
  have hd : ∀ t, o.dst = some t → t < sz := (putT_get (hc.put i o hi)).2.2.2
  have memW : Mem (envH P H) ops st i → wantV ops (cutT (tmpsOf o ops) (st i).tm) o = some true ∧ isPure (envH P H) o.op = false ∧ isLoad o.op = false := fun ⟨p, h1, h2, h3, h4⟩ => by
    rw [hi] at h1; cases h1; exact ⟨h4, h2, h3⟩
  -- an operation that makes no memory of its own
  have plain : ¬ Mem (envH P H) ops st i → (st i).C.n = (st (i + 1)).C.n → ∀ r, RV D (vs i) r → K (a.put o.dst r) w := fun hm hnn r hv => by
    refine hK i0 D1 w1 D _ w ⟨down', I.seg, I.le0, fun j h1 h2 => .inl (I.lo j h1 h2), fun j h1 h2 h3 => ?_, ?_, by rw [put_defers]; exact I.mks, I.rs, I.fo.mono upX, fun id g1 g2 g3 => I.free id g1 g2 (Win.mono upX g3), I.mi.same hnn⟩
    · rcases h1 with h1 | rfl
      · exact I.hi j h1 h2 h3
      · exact absurd h2 hm
    · have h := I.tmps.put hr hi hv hd
      rw [put_tmps]; exact h
  refine wpOpIn_step hi fun K' hKK => ?_
  have hk0 := hc.kind i o hi
  generalize hv : vs i = v0 at hk0
  cases hk0 with
  | skip hw h1 =>
    rw [wantV_ok hw hT, if_neg (by simp)]
    refine ⟨fun _ _ => trivial, hKK _ _ (plain (fun hm => ?_) (by rw [h1]) undef (by rw [hv]; exact undef_rv D))⟩
    have := (memW hm).1
    rw [hw] at this; cases this
  | pure _ hw hp hpv h1 =>
    rw [wantV_ok hw hT, if_pos rfl]
    obtain ⟨r, q1, q2⟩ := pureV_ok hT hpv w
    refine ⟨fun _ _ => trivial, ?_⟩
    have hsem : o.semAt (FF rr).round a.eval = execOp a.eval o := Oper.semAt_eq _ _ _ fun c e => by rw [e] at hp; simp [isPure] at hp
    rw [hsem, q1]
    refine hKK _ _ (plain (fun hm => ?_) (by rw [h1]) r (by rw [hv]; exact q2))
    have := (memW hm).2.1
    rw [hp] at this; cases this
  | load t x s p _ hw hp hop hsh hev hld hB h1 _ _ hR =>
    rw [wantV_ok hw hT, if_pos rfl]
    have hL := hc.lo hs hld hB hR
    obtain ⟨m', m1, m2, m3, m4⟩ := Ch.loadM hc hL hs (fun q hq => by rw [hi] at hq; cases hq; rw [hop]; rfl) I.seg I.le0 anc desc I.lo I.hi
    obtain ⟨u, q1, q2⟩ := I.mi.load hc I.seg m1 m2 m3 I.free hsh m4 (evO_ok hT hev)
    refine ⟨fun _ _ => trivial, ?_⟩
    obtain ⟨dst, op, ty, pos, after, guard⟩ := o
    simp only at hop
    subst hop
    have hsem : Oper.semAt (FF rr).round a.eval ⟨dst, .load t x, ty, pos, after, guard⟩ = execOp a.eval ⟨dst, .load t x, ty, pos, after, guard⟩ := Oper.semAt_eq _ _ _ fun c e => by cases e
    rw [hsem, show (execOp a.eval ⟨dst, .load t x, ty, pos, after, guard⟩).run P w = .ok (.value u) w from run_v q1]
    refine hKK _ _ (plain (fun hm => ?_) (by rw [h1]) u (by rw [hv]; exact q2))
    have := (memW hm).2.2
    simp [isLoad] at this
  | barr v hw hp hl hb hrun hnn hx h1 h2 _ hB =>
    rw [wantV_ok hw hT, if_pos rfl]
    have hmem : Mem (envH P H) ops st i := ⟨o, hi, hp, hl, hw⟩
    have hbar : Bar (envH P H) ops st i := ⟨hmem, hb⟩
    have hge : i0 ≤ i := by
      rcases Nat.lt_or_ge i i0 with c | c
      · exact absurd (I.lo i c hmem) hn
      · exact c
    have cmp : ∀ j, Mem (envH P H) ops st j → j ≠ i → (Al ops j ∧ i < j) ∨ bitB ((masks ops).getD i 0) j = true ∨ bitB ((masks ops).getD j 0) i = true := fun j ⟨q, g1, g2, g3, g4⟩ hne => by
      have hbb := hb
      unfold barr at hbb
      rw [Bool.and_eq_true] at hbb
      have h := List.all_eq_true.1 hbb.2 j (List.mem_range.2 (Array.getElem?_eq_some_iff.1 g1).1)
      rw [show ops.toList[j]? = some q by simpa using g1] at h
      have hb0 : Nat.beq i j = false := by
        cases c : Nat.beq i j with
        | false => rfl
        | true => exact absurd (Nat.eq_of_beq_eq_true c).symm hne
      cases ha : isAl q.op with
      | false => right; simpa [hb0, g2, g3, ha] using h
      | true =>
        cases hl2 : Nat.blt i j with
        | true => exact .inl ⟨⟨q, g1, ha⟩, by simpa using hl2⟩
        | false => right; simpa [hb0, g2, g3, ha, hl2] using h
    have mlt : ∀ j, Mem (envH P H) ops st j → j < i → X j := fun j hj hlt => by
      rcases cmp j hj (by omega) with c | c | c
      · have := c.2; omega
      · exact anc j c
      · obtain ⟨q, g1, -⟩ := hj
        have := hr.lt j q g1 i c; omega
    have mgt : ∀ j, Mem (envH P H) ops st j → ¬ Al ops j → X j → j < i := fun j hj hal hxx => by
      rcases Nat.lt_trichotomy j i with c | c | c
      · exact c
      · rw [c] at hxx; exact absurd hxx hn
      · rcases cmp j hj (by omega) with d | d | d
        · exact absurd d.1 hal
        · have := hr.lt i o hi j d; omega
        · rw [desc j hxx] at d; cases d
    have nob : ∀ b, i0 ≤ b → b < i → ¬ Bar (envH P H) ops st b := fun b g1 g2 g3 => I.hi b (mlt b g3.1 g2) g3.1 (bar_al g3) b g3 g1 (Nat.le_refl _)
    have made : ∀ j, j < ops.size → (st j).C.n < (st (j + 1)).C.n → Mem (envH P H) ops st j := fun j hj hlt => by
      have e := Array.getElem?_eq_getElem hj
      have hkj := hc.kind j _ e
      generalize vs j = vj at hkj
      cases hkj with
      | skip _ g => rw [g] at hlt; omega
      | pure _ _ _ _ g => rw [g] at hlt; omega
      | load _ _ _ _ _ _ _ _ _ _ _ _ g => rw [g] at hlt; omega
      | barr _ g1 g2 g3 => exact ⟨_, e, g2, g3, g1⟩
      | other _ _ _ g1 g2 g3 => exact ⟨_, e, g2, g3, g1⟩
    have hX : ∀ j, i0 ≤ j → j < i → (st j).C.n < (st (j + 1)).C.n → X j := fun j g1 g2 g3 => mlt j (made j (by omega) g3) g2
    have r1 := I.mi.rs hc I.seg hge (by omega) nob I.rs hX
    have fo1 := FO.seg hc I.seg hge (by omega) nob I.rs I.mi hX I.fo
    have hm0 := hc.mono (i := i0) (j := i) hge (by omega)
    have hm1 := hc.mono (i := i + 1) (j := ops.size) (by omega) (Nat.le_refl _)
    have hfree : Free D (st i).C.n (st (i + 1)).C.n := fun id g1 g2 => by
      have hw' : ¬ Win ops st i0 X id := by
        rintro ⟨j, c1, c2, c3, c4, c5⟩
        rcases Nat.lt_trichotomy j i with c | c | c
        · have := hc.mono (i := j + 1) (j := i) (by omega) (by omega); omega
        · subst c; exact hn c2
        · have := hc.mono (i := i + 1) (j := j) (by omega) (by omega); omega
      rw [I.mi.ext' hw']
      exact I.free id (by omega) (by omega) hw'
    refine ho o _ _ _ _ hrun sz D a w rr hT (hG.mono hle) r1 hfree m K' Q fun D' r w' q1 q2 q3 => hKK _ _ ?_
    refine hK (i + 1) D' w' D' _ w' ⟨down', .inr ⟨i, rfl, hbar⟩, by omega, fun j g1 g2 => ?_, fun j g1 g2 g2' b g3 g4 g5 => ?_, ?_, by rw [put_defers]; exact I.mks.mono q3.le, q2, FO.bar hc hge hs (Nat.le_trans I.fo.n (Nat.le_refl _)) fo1 q3, fun id g1 g2 g3 => ?_, I.mi.next hc I.seg hge hs nob hX r1 q2 q3⟩
    · rcases Nat.lt_or_ge j i with c | c
      · exact .inl (mlt j g2 c)
      · exact .inr (by omega)
    · rcases g1 with g1 | g1
      · have := mgt j g2 g2' g1; omega
      · omega
    · have h := (I.tmps.mono q3.le).put hr hi (r := r) (by rw [hv]; exact q1) hd
      rw [put_tmps]; exact h
    · have hmm := hc.mono (i := i) (j := i + 1) (by omega) (by omega)
      have hw' : ¬ Win ops st i0 X id := by
        rintro ⟨j, c1, c2, c3, c4, c5⟩
        rcases Nat.lt_or_ge i j with c | c
        · exact g3 ⟨j, c, .inl c2, c3, c4, c5⟩
        · have := hc.mono (i := j + 1) (j := i + 1) (by omega) (by omega); omega
      rw [q3.ext id (.inr g1), I.mi.ext' hw']
      exact I.free id (by omega) g2 hw'
  | other v h S1 hw hp hl hb hview hrun hwm hnn _ _ _ hk =>
    rw [wantV_ok hw hT, if_pos rfl]
    have hmem : Mem (envH P H) ops st i := ⟨o, hi, hp, hl, hw⟩
    have hge : i0 ≤ i := by
      rcases Nat.lt_or_ge i i0 with c | c
      · exact absurd (I.lo i c hmem) hn
      · exact c
    have hres : Res (envH P H) (opX (envH P H) k) ops st vs i h S1 := ⟨⟨o, hi, hp, hl, hw, by rw [hv]; exact hrun⟩, hb, hview, hwm, by
      rcases hk with ⟨e1, e2, -⟩ | ⟨l, -, e2, -⟩
      · rw [e2]; exact e1
      · rw [e2]⟩
    have hm0 := hc.mono (i := i0) (j := i) hge (by omega)
    have hm1 := hc.mono (i := i + 1) (j := ops.size) (by omega) (Nat.le_refl _)
    have hfree : Free D (st i).C.n (st (i + 1)).C.n := fun id g1 g2 => by
      have hw' : ¬ Win ops st i0 X id := by
        rintro ⟨j, c1, c2, c3, c4, c5⟩
        rcases Nat.lt_trichotomy j i with c | c | c
        · have := hc.mono (i := j + 1) (j := i) (by omega) (by omega); omega
        · subst c; exact hn c2
        · have := hc.mono (i := i + 1) (j := j) (by omega) (by omega); omega
      rw [I.mi.ext' hw']
      exact I.free id (by omega) (by omega) hw'
    cases hal : isAl o.op with
    | true =>
      obtain ⟨dst, op, ty, pos, after, guard⟩ := o
      cases op with
      | alloc t =>
        obtain ⟨k', e1⟩ : ∃ k', k = k' + 1 := by
          cases k with
          | zero => simp [opX] at hrun
          | succ k' => exact ⟨k', rfl⟩
        subst e1
        have hrun0 := hrun
        have ip : isPure (envH P H) (Op.alloc t) = false := rfl
        have ic : isCall (Op.alloc t) = false := rfl
        simp only [opX, ip, ic] at hrun
        obtain ⟨z, z1, z2⟩ := ob_some.1 hrun
        simp only [Option.some.injEq, Prod.mk.injEq] at z2
        obtain ⟨rfl, e2⟩ := z2
        have hn1 : S1.n = (st i).C.n + 1 := by rw [← e2]; rfl
        have hh1 : ∀ id, S1.h.get id = if id = (st i).C.n then some (VObj.row z.cells.toList t) else h.get id := fun id => by rw [← e2]; exact Tr.get_set _ _ _ _
        have hrn : opX (envH P H) (k' + 1) ⟨dst, .alloc t, ty, pos, after, guard⟩ (cutT (tmpsOf ⟨dst, .alloc t, ty, pos, after, guard⟩ ops) (st i).tm) ⟨.nil, (st i).C.n, BIG⟩ = some (.pointer (some ⟨(st i).C.n, 0, none⟩), newV ⟨.nil, (st i).C.n, BIG⟩ (.row z.cells.toList t)) := by
          simp only [opX, ip, ic]
          exact ob_some.2 ⟨z, z1, rfl⟩
        have hS0 : RS D ⟨.nil, (st i).C.n, BIG⟩ w := ⟨⟨fun i o hi => (by cases hi), fun i j o o' l l' hi => (by cases hi)⟩, fun i o hi => (by cases hi)⟩
        have hn2 : (st (i + 1)).C.n = (st i).C.n + 1 := by rw [← hres.n]; exact hn1
        refine ho _ _ _ _ _ hrn sz D a w rr hT (hG.mono hle) hS0 (by rw [show (newV ⟨.nil, (st i).C.n, BIG⟩ (.row z.cells.toList t)).n = (st (i + 1)).C.n by rw [hn2]; rfl]; exact hfree) m K' Q fun D' r w' q1 q2 q3 => hKK _ _ ?_
        have hmi := I.mi.alloc hc hr hge hres (r := .row z.cells.toList t) (S2 := newV ⟨.nil, (st i).C.n, BIG⟩ (.row z.cells.toList t)) (fun id o' g1 g2 g3 => by
          have e : id = (st i).C.n := by omega
          rw [hh1, if_pos e] at g3
          exact ⟨e, (Option.some.inj g3).symm⟩) (fun id o' => by
          have e : (newV ⟨.nil, (st i).C.n, BIG⟩ (.row z.cells.toList t)).h.get id = if id = (st i).C.n then some (VObj.row z.cells.toList t) else (Tr.nil : Tr VObj).get id := by
            show (Tr.set (Tr.nil : Tr VObj) (some (VObj.row z.cells.toList t)) (st i).C.n).get id = _
            exact Tr.get_set _ _ _ _
          rw [e]
          by_cases c : id = (st i).C.n
          · rw [if_pos c]; simp [c, eq_comm]
          · rw [if_neg c]; simp [c, Tr.get_nil]) (by rw [hn2]; rfl) q2 q3
        refine hK i0 D1 w1 D' _ w' ⟨down', I.seg, I.le0, fun j g1 g2 => .inl (I.lo j g1 g2), fun j g1 g2 g3 => ?_, ?_, by rw [put_defers]; exact I.mks.mono q3.le, I.rs, I.fo.mono upX, fun id g1 g2 g3 => I.free id g1 g2 (Win.mono upX g3), hmi⟩
        · rcases g1 with g1 | g1
          · exact I.hi j g1 g2 g3
          · subst g1
            exact absurd ⟨_, hi, rfl⟩ g3
        · have h := (I.tmps.mono q3.le).put hr hi (r := r) (by rw [hv]; exact q1) hd
          rw [put_tmps]; exact h
      | _ => simp [isAl] at hal
    | false =>
      have nob : ∀ b, i0 ≤ b → b < i → ¬ Bar (envH P H) ops st b := fun b g1 g2 ⟨⟨q, c1, c2, c3, c4⟩, c5⟩ => by
        have c6 := c5
        unfold barr at c6
        rw [Bool.and_eq_true] at c6
        have hh := List.all_eq_true.1 c6.2 i (List.mem_range.2 hs)
        rw [show ops.toList[i]? = some o by simpa using hi] at hh
        have hb0 : Nat.beq b i = false := by
          cases c : Nat.beq b i with
          | false => rfl
          | true => have := Nat.eq_of_beq_eq_true c; omega
        have hh : bitB ((masks ops).getD b 0) i = true ∨ bitB ((masks ops).getD i 0) b = true := by simpa [hb0, hp, hl, hal] using hh
        rcases hh with d | d
        · have := hr.lt b q c1 i d; omega
        · exact I.hi b (anc b d) ⟨q, c1, c2, c3, c4⟩ (bar_al ⟨⟨q, c1, c2, c3, c4⟩, c5⟩) b ⟨⟨q, c1, c2, c3, c4⟩, c5⟩ g1 (Nat.le_refl _)
      have hV := I.mi.view hc hr I.seg hge nob I.rs anc hres
      refine ho o _ _ _ _ hrun sz D a w rr hT (hG.mono hle) hV (by rw [hres.n]; exact hfree) m K' Q fun D' r w' q1 q2 q3 => hKK _ _ ?_
      refine hK i0 D1 w1 D' _ w' ⟨down', I.seg, I.le0, fun j g1 g2 => .inl (I.lo j g1 g2), fun j g1 g2 g2' b g3 g4 g5 => ?_, ?_, by rw [put_defers]; exact I.mks.mono q3.le, I.rs, I.fo.mono upX, fun id g1 g2 g3 => I.free id g1 g2 (Win.mono upX g3), I.mi.other hc hr I.seg hge nob I.rs anc hres q2 q3⟩
      · rcases g1 with g1 | g1
        · exact I.hi j g1 g2 g2' b g3 g4 g5
        · subst g1
          rcases Nat.lt_or_ge b j with c | c
          · exact nob b g4 c g3
          · have : b = j := by omega
            subst this
            rw [g3.2] at hb; cases hb
      · have h := (I.tmps.mono q3.le).put hr hi (r := r) (by rw [hv]; exact q1) hd
        rw [put_tmps]; exact h
end
end Go.Ex

namespace Go.Ex
set_option linter.unusedSectionVars false
open Go

theorem cnt_set : ∀ (l : List Bool) (i : Nat), l[i]? = some false → (l.set i true).countP (fun b => !b) + 1 = l.countP (fun b => !b)
  | [], i, h => by simp at h
  | b :: l, 0, h => by
    simp at h; subst h
    simp
  | b :: l, i + 1, h => by
    have := cnt_set l i (by simpa using h)
    simp only [List.set_cons_succ, List.countP_cons]
    omega
theorem cnt_zero {l : List Bool} (h : l.countP (fun b => !b) = 0) {i : Nat} {b : Bool} (hi : l[i]? = some b) : b = true := by
  have := List.countP_eq_zero.1 h b (List.mem_of_getElem? hi)
  simpa using this

section
variable {P : Program} {k sz : Nat} {ops : Array Oper} {tm0 : Tm} {S0 : St} {st : Nat → DS} {vs : Nat → Value} {H : Hooks}
variable (hc : Ch (envH P H) sz (opX (envH P H) k) ops tm0 S0 st vs) (hr : RegOK ops)

def XL (listed : Array Bool) (j : Nat) : Prop := listed[j]? = some true
theorem xl_set {listed : Array Bool} {i : Nat} (hi : i < listed.size) : XL (listed.setIfInBounds i true) = fun j => XL listed j ∨ j = i := by
  funext j
  refine propext ?_
  unfold XL
  by_cases c : j = i
  · subst c; simp [hi]
  · rw [Array.getElem?_setIfInBounds_ne (Ne.symm c)]; simp [c]
theorem ready_mem {listed : Array Bool} {i : Nat} (hs : listed.size = ops.size) (h : i ∈ Region.ready .any ops listed) : ∃ o, ops[i]? = some o ∧ listed[i]? = some false ∧ ∀ e ∈ o.after.toList, eB e = true → XL listed e.on := by
  unfold Region.ready at h
  obtain ⟨h1, h2⟩ := List.mem_filter.1 h
  have hi := List.mem_range.1 h1
  simp only [Bool.and_eq_true, Bool.not_eq_true'] at h2
  rw [Array.getElem?_eq_getElem hi] at h2
  refine ⟨ops[i], Array.getElem?_eq_getElem hi, ?_, fun e he hb => ?_⟩
  · have := h2.1
    rw [Array.getElem?_eq_getElem (by omega)]
    simpa [Array.getD, hs, hi] using this
  · have h3 := h2.2
    simp only [Option.map_some, Option.getD_some] at h3
    rw [← Array.all_toList] at h3
    have h4 := List.all_eq_true.1 h3 e he
    rw [← eB_binds, hb] at h4
    simp only [Bool.not_true, Bool.false_or] at h4
    unfold XL
    by_cases c : e.on < listed.size
    · rw [Array.getElem?_eq_getElem c]
      simpa [Array.getD, c] using h4
    · simp [Array.getD, c] at h4
theorem ready_nil (hr : RegOK ops) {listed : Array Bool} (hs : listed.size = ops.size) (h : Region.ready .any ops listed = []) : ∀ j, j < ops.size → XL listed j := by
  intro j
  induction j using Nat.strongRecOn with
  | _ j ih =>
    intro hj
    refine Classical.byContradiction fun hn => ?_
    have hm : j ∈ Region.ready .any ops listed := by
      unfold Region.ready
      refine List.mem_filter.2 ⟨List.mem_range.2 hj, ?_⟩
      simp only [Bool.and_eq_true, Bool.not_eq_true']
      rw [Array.getElem?_eq_getElem hj]
      refine ⟨?_, ?_⟩
      · unfold XL at hn
        rw [Array.getElem?_eq_getElem (by omega)] at hn
        simp only [Option.some.injEq, Bool.not_eq_true] at hn
        simp [Array.getD, hs, hj, hn]
      · simp only [Option.map_some, Option.getD_some]
        rw [← Array.all_toList]
        refine List.all_eq_true.2 fun e he => ?_
        cases hb : eB e with
        | false => rw [← eB_binds, hb]; rfl
        | true =>
          have hlt := hr.back j _ (Array.getElem?_eq_getElem hj) e he hb
          have hx := ih e.on hlt (by omega)
          unfold XL at hx
          obtain ⟨hlt2, hx⟩ := Array.getElem?_eq_some_iff.1 hx
          rw [← eB_binds, hb]
          simp [Array.getD, hlt2, hx]
    rw [h] at hm; cases hm

include hc hr
theorem Inv.fin {D0 : Dm} {w0 : World} {i0 : Nat} {X : Nat → Prop} {D1 D : Dm} {w1 w : World} {a : Act} (I : Inv P H k sz ops tm0 S0 st vs D0 w0 i0 X D1 w1 D a w) (all : ∀ j, j < ops.size → X j) :
    RS D (st ops.size).C w ∧ Fr D0 S0 w0 D (st ops.size).C w ∧ RA D sz (st ops.size).tm a ∧ (st ops.size).tm.ng = tm0.ng := by
  have nob : ∀ b, i0 ≤ b → b < ops.size → ¬ Bar (envH P H) ops st b := fun b g1 g2 g3 => I.hi b (all b g2) g3.1 (bar_al g3) b g3 g1 (Nat.le_refl _)
  have r1 := I.mi.rs hc I.seg I.le0 (Nat.le_refl _) nob I.rs (fun j _ g2 _ => all j g2)
  have r2 := FO.fin hc I.fo.n (FO.seg hc I.seg I.le0 (Nat.le_refl _) nob I.rs I.mi (fun j _ g2 _ => all j g2) I.fo)
  obtain ⟨n1, n2⟩ := hc.ng ops.size (Nat.le_refl _)
  refine ⟨r1, r2, ⟨⟨I.tmps.size, fun t v e => ?_, fun g hg => I.tmps.gl g (by rw [← n1]; exact hg)⟩, by rw [n2]; exact I.mks⟩, n1⟩
  by_cases hw : ∃ (j : Nat) (p : Oper), ops[j]? = some p ∧ p.dst = some t
  · obtain ⟨j, p, h1, h2⟩ := hw
    have hj := (Array.getElem?_eq_some_iff.1 h1).1
    rw [hc.wrote hr h1 h2 ops.size hj (Nat.le_refl _)] at e
    cases e
    exact I.tmps.wr j p t (all j hj) h1 h2
  · rw [hc.keep ops.size (Nat.le_refl _) t fun j p _ h1 h2 => hw ⟨j, p, h1, h2⟩] at e
    exact I.tmps.old t v e fun j p _ h1 h2 => hw ⟨j, p, h1, h2⟩

theorem Inv.any (ho : OpOK P H k) {D0 : Dm} {w0 : World} (hG : GL P D0) {rr : Option Nat} {m : Nat} {Q : Exit → Act → World → Prop}
    (hQ : ∀ D a w, RA D sz (st ops.size).tm a → (st ops.size).tm.ng = tm0.ng → RS D (st ops.size).C w → Fr D0 S0 w0 D (st ops.size).C w → Q .normal a w) :
    ∀ (fuel : Nat) (listed : Array Bool) (i0 : Nat) (D1 : Dm) (w1 : World) (D : Dm) (a : Act) (w : World), listed.size = ops.size → listed.toList.countP (fun b => !b) ≤ fuel → Inv P H k sz ops tm0 S0 st vs D0 w0 i0 (XL listed) D1 w1 D a w → wpAnyIn (FF rr) m P .any ops Q fuel listed a w := by
  intro fuel
  have done : ∀ (listed : Array Bool) (i0 : Nat) (D1 : Dm) (w1 : World) (D : Dm) (a : Act) (w : World), Inv P H k sz ops tm0 S0 st vs D0 w0 i0 (XL listed) D1 w1 D a w → (∀ j, j < ops.size → XL listed j) → Q .normal a w := fun listed i0 D1 w1 D a w I all => by
    obtain ⟨r1, r2, r3, r4⟩ := I.fin hc hr all
    exact hQ D a w r3 r4 r1 r2
  induction fuel with
  | zero =>
    intro listed i0 D1 w1 D a w hs hn I
    have all : ∀ j, j < ops.size → XL listed j := fun j hj => by
      have e : listed[j]? = some (listed[j]'(by omega)) := Array.getElem?_eq_getElem (by omega)
      unfold XL
      rw [e]
      have := cnt_zero (l := listed.toList) (by omega) (i := j) (b := listed[j]'(by omega)) (by simp)
      rw [this]
    refine ⟨?_, done listed i0 D1 w1 D a w I all⟩
    rw [List.eq_nil_iff_forall_not_mem]
    intro i hi
    obtain ⟨o, h1, h2, -⟩ := ready_mem hs hi
    have := all i (Array.getElem?_eq_some_iff.1 h1).1
    unfold XL at this
    rw [h2] at this; cases this
  | succ fuel ih =>
    intro listed i0 D1 w1 D a w hs hn I
    refine ⟨fun h => done listed i0 D1 w1 D a w I (ready_nil hr hs h), fun i hi => ?_⟩
    obtain ⟨o, h1, h2, h3⟩ := ready_mem hs hi
    have hlt := (Array.getElem?_eq_some_iff.1 h1).1
    refine I.step hc hr ho hG h1 (fun h => by unfold XL at h; rw [h2] at h; cases h) h3 fun i0' D1' w1' D' a' w' I' => ?_
    refine ih _ i0' D1' w1' D' a' w' (by simp [hs]) ?_ (by rw [xl_set (by omega)]; exact I')
    have := cnt_set listed.toList i (by simpa using h2)
    rw [Array.toList_setIfInBounds]
    omega
end

theorem draw_ok {P : Program} {H : Hooks} {k : Nat} (hm : P.follows .mixedOrders = true) (ho : OpOK P H k) : DrawOK P H k := by
  intro id ops sz tm S DD hreg hdraw D a w rr hA hN hG hS hF m Q hQ
  obtain ⟨st, vs, hc, hend⟩ := chain_of hdraw
  have hr := regB_ok hreg
  subst hend
  have e0 : (st 0).C = S := by rw [hc.zero]
  refine wpIn_region_any hm (Inv.any hc hr ho (D0 := D) (w0 := w) hG (fun D' a' w' h1 h2 h3 h4 => hQ D' a' w' h1 (by rw [h2]; exact hN) h3 h4) ops.size _ 0 D w.drew D a w.drew (by simp) (by
    have h := List.countP_le_length (p := fun b => !b) (l := (Array.replicate ops.size false).toList)
    simpa using h) ?_)
  have no : ∀ j, ¬ XL (Array.replicate ops.size false) j := fun j h => by
    unfold XL at h
    rw [Array.getElem?_replicate] at h
    split at h <;> simp at h
  have fo0 : FO ops st D S w 0 (XL (Array.replicate ops.size false)) D (st 0).C w.drew := by
    rw [e0]
    exact ⟨Nat.le_refl _, fun _ _ _ => rfl, .refl D, Nat.le_refl _, rfl, rfl, rfl, fun _ _ _ => rfl, fun i o l h1 h2 => .inr ⟨i, o, l, h1, h2, rfl⟩, Nat.le_refl _, fun _ _ _ => rfl⟩
  exact ⟨fun j _ h => absurd h (no j), .inl rfl, Nat.zero_le _, fun j h => by omega, fun j h => absurd h (no j), ⟨hA.t.sz, fun t v e _ => hA.t.get t v e, fun j _ _ h => absurd h (no j), hA.t.gl⟩, hA.m, by rw [e0]; exact hS.drew, fo0, fun id g1 g2 _ => hF id (by rw [e0] at g1; exact g1) g2, MI.start (Nat.le_refl _) (by rw [e0]; exact hS.drew) no⟩
end Go.Ex

namespace Go.Ex
open Go

theorem every_ok {P : Program} {H : Hooks} (hH : HooksOK P H) (hm : P.follows .mixedOrders = true) : ∀ k, CallOK P H k ∧ CodeOK P H k ∧ OpOK P H k ∧ RoundOK P H k ∧ DrawOK P H k := by
  intro k
  induction k with
  | zero =>
    have ho : OpOK P H 0 := fun o tm S v S' h => by simp [opX] at h
    exact ⟨fun f args S v S' h => by simp [callX] at h, fun rnd sz c tm S x tm' S' h => by simp [codeX] at h, ho, fun i args S v S' h => by simp [roundX] at h, draw_ok hm ho⟩
  | succ k ih =>
    obtain ⟨h1, h2, h3, h4, h5⟩ := ih
    have ho := opX_ok h1 h4
    exact ⟨callX_ok hH h2, codeX_ok h2 h3 h5 h1, ho, roundX_ok h2, draw_ok hm ho⟩

theorem noH_ok (P : Program) : HooksOK P noH := fun f h e => by cases e

/-- where the package-level variables lie -/
def D0 (P : Program) (c : Nat → Nat) : Dm := fun i => if i < P.globals.size then some ⟨i, 0, c i⟩ else none
theorem D0_gl (P : Program) (c : Nat → Nat) : GL P (D0 P c) := fun g hg => ⟨⟨g, 0, c g⟩, by unfold D0; rw [if_pos hg], rfl, rfl⟩

/-- a closed run that reads no package-level variable -/
theorem run_true {P : Program} {H : Hooks} (hH : HooksOK P H) (hm : P.follows .mixedOrders = true) {k f : Nat} {S' : St} (h : callX (envH P H) k f [] ⟨.nil, P.globals.size, 0⟩ = some (.bool true, S')) (hb : HasBody P f) (w : World) :
    Calls P f #[] w fun e w' => e = .returned (.bool true) ∧ Go.RowKit.Below w.heap.size w w' := by
  have hS : RS (D0 P fun _ => 0) ⟨.nil, P.globals.size, 0⟩ w := ⟨⟨fun i o hi => (by cases hi), fun i j o o' l l' hi => (by cases hi)⟩, fun i o hi => (by cases hi)⟩
  have hF : Free (D0 P fun _ => 0) P.globals.size S'.n := fun i h1 h2 => by unfold D0; rw [if_neg (by omega)]
  have hc := (every_ok hH hm k).1 f [] _ _ _ h hb (D0 P fun _ => 0) w [] RL.nil hS hF (D0_gl P _) 0
  refine (callsIn_wide.1 hc).mono ?_
  rintro e w' ⟨D', r, rfl, hv, hS', hFr⟩
  obtain rfl : r = .bool true := hv.bool_inv
  exact ⟨rfl, hFr.os, hFr.tape, hFr.output, hFr.size, fun i hi => hFr.out i hi fun j o l hj => (by cases hj)⟩
end Go.Ex

namespace Go.Ex
open Go

/-- the first n statements of a row, and what follows -/
def headC : Nat → Code → List Code
  | n + 1, .seq a b => a :: headC n b
  | _, _ => []
def tailC : Nat → Code → Code
  | n + 1, .seq _ b => tailC n b
  | _, c => c
theorem head_tail : ∀ (n : Nat) (c : Code), (headC n c).foldr Code.seq (tailC n c) = c := by
  intro n
  induction n with
  | zero => intro c; cases c <;> rfl
  | succ n ih =>
    intro c
    cases c with
    | seq a b => show Code.seq a ((headC n b).foldr Code.seq (tailC n b)) = _; rw [ih]
    | _ => rfl

noncomputable def runL (E : Env) (k sz : Nat) : List Code → Tm → St → Option (Tm × St)
  | [], tm, S => some (tm, S)
  | c :: r, tm, S => ob (codeX E k none sz c tm S) fun x => match x.1 with
    | .normal => ob (runL E k sz r x.2.1 x.2.2) fun y => gd (Nat.ble x.2.2.n y.2.n) (some y)
    | _ => none

section
variable {P : Program} {k sz : Nat} {H : Hooks}

def Tri (P : Program) (sz : Nat) (c : Code) (tm : Tm) (S : St) (x : X) (tm' : Tm) (S' : St) : Prop :=
  ∀ D a w, RA D sz tm a → tm.ng = P.globals.size → GL P D → RS D S w → Free D S.n S'.n → ∀ m (Q : Exit → Act → World → Prop),
    (∀ D' a' w', RA D' sz tm' a' → tm'.ng = P.globals.size → RS D' S' w' → Fr D S w D' S' w' → Q (exitOf x) a' w') → c.wpIn (FF none) m P Q a w

theorem tri_of (hH : HooksOK P H) (hm : P.follows .mixedOrders = true) {c : Code} {tm tm' : Tm} {S S' : St} {x : X} (h : codeX (envH P H) k none sz c tm S = some (x, tm', S')) : Tri P sz c tm S x tm' S' :=
  fun D a w hA hN hG hS hF m Q hQ => ((every_ok hH hm k).2.1 none sz c tm S x tm' S' h D a w none .none hA hN hG hS hF m Q hQ).1

theorem Tri.seq {a b : Code} {tm tm1 tm' : Tm} {S S1 S' : St} {x : X} (h1 : Tri P sz a tm S .normal tm1 S1) (h2 : Tri P sz b tm1 S1 x tm' S') (hn : S1.n ≤ S'.n) : Tri P sz (.seq a b) tm S x tm' S' := by
  intro D act w hA hN hG hS hF m Q hQ
  refine wpIn_seq (h1 D act w hA hN hG hS (hF.left hn) m _ fun D1 a1 w1 hA1 hN1 hS1 hF1 => ?_)
  exact h2 D1 a1 w1 hA1 hN1 (hG.mono hF1.le) hS1 (hF.next hF1) m Q fun D2 a2 w2 q1 q2 q3 q4 => hQ D2 a2 w2 q1 q2 q3 (hF1.trans q4)

/-- less is known at the start -/
theorem Tri.weak {c : Code} {tm1 tm1' tm' : Tm} {S1 S1' S' : St} {x : X} (h : Tri P sz c tm1' S1' x tm' S') (ht : ∀ t v, tm1'.get t = some v → tm1.get t = some v) (hng : tm1'.ng = tm1.ng) (hmk : tm1'.mks = tm1.mks)
    (hs : ∀ i o, S1'.h.get i = some o → S1.h.get i = some o) (hn : S1'.n = S1.n) (hw : S1'.wm = 0) : Tri P sz c tm1 S1 x tm' S' := by
  intro D a w hA hN hG hS hF m Q hQ
  refine h D a w ⟨⟨hA.t.sz, fun t v e => hA.t.get t v (ht t v e), fun g hg => hA.t.gl g (by rw [← hng]; exact hg)⟩, by rw [hmk]; exact hA.m⟩ (by rw [hng]; exact hN) hG ⟨hS.rh.sub hs, fun i o e => by rw [hn]; exact hS.lt i o (hs i o e)⟩ (by rw [hn]; exact hF) m Q fun D' a' w' q1 q2 q3 q4 => ?_
  refine hQ D' a' w' q1 q2 q3 ⟨by rw [← hn]; exact q4.n, fun i hi => q4.ext i (by rw [hn]; exact hi), q4.le, q4.size, q4.os, q4.tape, q4.output, fun b hb hno => q4.out b hb fun i o l e => hno i o l (hs i o e), fun i o l e hl => ?_, ?_, fun i hi hwm => ?_⟩
  · rcases q4.img i o l e hl with c | ⟨i', o', l', c1, c2, c3⟩
    · exact .inl c
    · exact .inr ⟨i', o', l', hs _ _ c1, c2, c3⟩
  · have := q4.wm; rw [hw] at this; omega
  · have := q4.wm; rw [hw] at this; omega

theorem runL_tri (hH : HooksOK P H) (hm : P.follows .mixedOrders = true) {rest : Code} {x : X} {tm' : Tm} {S' : St} : ∀ (l : List Code) (tm : Tm) (S : St) (tm1 : Tm) (S1 : St), runL (envH P H) k sz l tm S = some (tm1, S1) → Tri P sz rest tm1 S1 x tm' S' → S1.n ≤ S'.n → Tri P sz (l.foldr Code.seq rest) tm S x tm' S'
  | [], tm, S, tm1, S1, h, h2, hn => by
    simp only [runL, Option.some.injEq, Prod.mk.injEq] at h
    obtain ⟨rfl, rfl⟩ := h
    exact h2
  | c :: r, tm, S, tm1, S1, h, h2, hn => by
    simp only [runL] at h
    obtain ⟨⟨y, tmc, Sc⟩, h3, h4⟩ := ob_some.1 h
    cases y with
    | normal =>
      simp only at h4
      obtain ⟨z, h5, h6⟩ := ob_some.1 h4
      obtain ⟨h7, h8⟩ := gd_some.1 h6
      cases h8
      have hle : Sc.n ≤ S1.n := Nat.le_of_ble_eq_true h7
      exact Tri.seq (tri_of hH hm h3) (runL_tri hH hm r tmc Sc tm1 S1 h5 h2 hn) (Nat.le_trans hle hn)
    | _ => simp at h4

/-- a table of pairs -/
noncomputable def ofPairs {α : Type} : List (Nat × α) → Tr α
  | [] => .nil
  | p :: r => (ofPairs r).set (some p.2) p.1
theorem ofPairs_get {α : Type} : ∀ {l : List (Nat × α)} {i : Nat} {v : α}, (ofPairs l).get i = some v → (i, v) ∈ l
  | [], i, v, h => by cases h
  | p :: r, i, v, h => by
    simp only [ofPairs] at h
    rw [Tr.get_set] at h
    by_cases c : i = p.1
    · rw [if_pos c] at h; cases h; subst c; exact List.mem_cons_self ..
    · rw [if_neg c] at h; exact List.mem_cons_of_mem _ (ofPairs_get h)

noncomputable def eqE : List MapEntry → List MapEntry → Bool
  | [], [] => true
  | a :: as, b :: bs => eqV 6 a.key b.key && eqV 6 a.val b.val && Nat.beq a.born b.born && eqE as bs
  | _, _ => false
theorem eqE_ok : ∀ {l r : List MapEntry}, eqE l r = true → l = r
  | [], [], _ => rfl
  | a :: as, b :: bs, h => by
    simp only [eqE, Bool.and_eq_true] at h
    obtain ⟨⟨⟨h1, h2⟩, h3⟩, h4⟩ := h
    obtain ⟨k, v, c⟩ := a
    obtain ⟨k', v', c'⟩ := b
    simp only at h1 h2 h3
    rw [eqV_ok 6 _ _ h1, eqV_ok 6 _ _ h2, Nat.eq_of_beq_eq_true h3, eqE_ok h4]
  | [], _ :: _, h => by simp [eqE] at h
  | _ :: _, [], h => by simp [eqE] at h
noncomputable def eqOb : VObj → VObj → Bool
  | .row cs e, .row ds f => eqV.eqL (eqV 6) cs ds && Nat.beq e f
  | .map es c, .map fs d => eqE es fs && Nat.beq c d
  | _, _ => false
theorem eqOb_ok {a b : VObj} (h : eqOb a b = true) : a = b := by
  cases a <;> cases b <;> simp only [eqOb, Bool.and_eq_true] at h <;> try cases h
  · rename_i h1 h2
    rw [eqL_ok (eqV_ok 6) _ _ h1, Nat.eq_of_beq_eq_true h2]
  · rename_i h1 h2
    rw [eqE_ok h1, Nat.eq_of_beq_eq_true h2]

noncomputable def mkTm (tl : List (Nat × Value)) (ng : Nat) : Tm := ⟨ofPairs tl, ng, []⟩
noncomputable def mkSt (hl : List (Nat × VObj)) (n : Nat) : St := ⟨ofPairs hl, n, 0⟩

/-- what a piece leaves, as far as it is kept -/
noncomputable def keepB (ng : Nat) (tl : List (Nat × Value)) (hl : List (Nat × VObj)) (n : Nat) (r : Option (Tm × St)) : Bool := match r with
  | some (tm1, S1) => tl.all (fun p => eqO (tm1.get p.1) p.2) && hl.all (fun p => match S1.h.get p.1 with | some o => eqOb o p.2 | none => false) && Nat.beq S1.n n && Nat.beq tm1.ng ng && tm1.mks.isEmpty
  | none => false

theorem piece_ok (hH : HooksOK P H) (hm : P.follows .mixedOrders = true) {rest : Code} {x : X} {tm tm' : Tm} {S S' : St} {l : List Code} {ng n : Nat} {tl : List (Nat × Value)} {hl : List (Nat × VObj)} (h : keepB ng tl hl n (runL (envH P H) k sz l tm S) = true)
    (h2 : Tri P sz rest (mkTm tl ng) (mkSt hl n) x tm' S') (hn : n ≤ S'.n) : Tri P sz (l.foldr Code.seq rest) tm S x tm' S' := by
  cases hr : runL (envH P H) k sz l tm S with
  | none => rw [hr] at h; simp [keepB] at h
  | some r =>
    obtain ⟨tm1, S1⟩ := r
    rw [hr] at h
    simp only [keepB, Bool.and_eq_true] at h
    obtain ⟨⟨⟨⟨g1, g2⟩, g3⟩, g4⟩, g5⟩ := h
    have e3 := Nat.eq_of_beq_eq_true g3
    refine runL_tri hH hm l tm S tm1 S1 hr (h2.weak (fun t v e => ?_) (Nat.eq_of_beq_eq_true g4).symm (by show [] = tm1.mks; exact (List.isEmpty_iff.1 g5).symm) (fun i o e => ?_) e3.symm rfl) (by rw [e3]; exact hn)
    · exact eqO_ok (List.all_eq_true.1 g1 _ (ofPairs_get e))
    · have := List.all_eq_true.1 g2 _ (ofPairs_get e)
      simp only at this
      cases hg : S1.h.get i with
      | none => rw [hg] at this; cases this
      | some o' => rw [hg] at this; rw [eqOb_ok this]

/-- the last piece of a function that returns true -/
noncomputable def endB (E : Env) (rs : List ResultVar) (n : Nat) (r : Option (X × Tm × St)) : Bool := match r with
  | some (x, tm', S') => (match x with | .exit _ => false | _ => true) && Nat.ble n S'.n && tm'.mks.isEmpty && (match resV E tm' S' rs with | some [.bool true] => true | _ => false)
  | none => false
theorem endB_ok {E : Env} {rs : List ResultVar} {n : Nat} {r : Option (X × Tm × St)} (h : endB E rs n r = true) : ∃ x tm' S', r = some (x, tm', S') ∧ (x = .normal ∨ x = .ret) ∧ n ≤ S'.n ∧ tm'.mks = [] ∧ resV E tm' S' rs = some [.bool true] := by
  cases r with
  | none => simp [endB] at h
  | some r =>
    obtain ⟨x, tm', S'⟩ := r
    simp only [endB, Bool.and_eq_true] at h
    obtain ⟨⟨⟨h1, h2⟩, h3⟩, h4⟩ := h
    refine ⟨x, tm', S', rfl, ?_, Nat.le_of_ble_eq_true h2, List.isEmpty_iff.1 h3, ?_⟩
    · cases x with
      | normal => exact .inl rfl
      | ret => exact .inr rfl
      | exit id => simp at h1
    · split at h4
      · assumption
      · cases h4

/-- a function without arguments whose body's pieces tell 'true' -/
theorem body_true {f : FuncId} {F : Func} {c : Code} (h1 : P.funcs[f]? = some F) (hb : F.body = some c) {x : X} {tm' : Tm} {S' : St} (tri : Tri P F.ntmps c ⟨.nil, P.globals.size, []⟩ ⟨.nil, P.globals.size, 0⟩ x tm' S')
    (hx : x = .normal ∨ x = .ret) (hmk : tm'.mks = []) (hres : resV (envH P H) tm' S' F.results.toList = some [.bool true]) (w : World) :
    Calls P f #[] w fun e w' => e = .returned (.bool true) ∧ Go.RowKit.Below w.heap.size w w' := by
  have hS : RS (D0 P fun _ => 0) ⟨.nil, P.globals.size, 0⟩ w := ⟨⟨fun i o hi => (by cases hi), fun i j o o' l l' hi => (by cases hi)⟩, fun i o hi => (by cases hi)⟩
  have hF : Free (D0 P fun _ => 0) P.globals.size S'.n := fun i h1 h2 => by unfold D0; rw [if_neg (by omega)]
  refine (callsIn_wide (n := 0)).1 ?_
  refine callsIn_of_wp_marks h1 hb trivial ?_
  have hA : RA (D0 P fun _ => 0) F.ntmps ⟨.nil, P.globals.size, []⟩ { tmps := (⟨[]⟩ : Array Value) ++ Array.replicate (F.ntmps - (Array.mk ([] : List Value)).size) undef, defers := [] } := by
    refine ⟨⟨by simp, fun t u hu => (by cases hu), fun g hg => D0_gl P _ g hg⟩, .nil⟩
  refine tri (D0 P fun _ => 0) _ w hA rfl (D0_gl P _) hS hF 0 _ ?_
  intro D1 a1 w1 hA1 hN1 hS1 hFr1
  have hleaves : LeavesInM (FF none) 0 P F a1.tmps (fun e w' => e = .returned (.bool true) ∧ Go.RowKit.Below w.heap.size w w') a1.defers .returning w1 := by
    refine shutAll_ok (S' := S') (by rw [hmk]; rfl) hA1.m hS1 fun w' q1 q2 => ?_
    obtain ⟨l', r1, r2⟩ := results_ok hA1.t q1 hres
    obtain ⟨y, l2, rfl, e1, e2⟩ := r2.cons_inv
    obtain rfl := e2.nil_inv
    obtain rfl : y = .bool true := e1.bool_inv
    have fr := hFr1.trans q2
    refine ⟨.bool true, ?_, rfl, fr.os, fr.tape, fr.output, fr.size, fun i hi => fr.out i hi fun j o l hj => (by cases hj)⟩
    have hr : results F a1.tmps = (do let vs ← F.results.mapM (resF a1.tmps); pure (if h : vs.size = 1 then vs[0] else .tuple vs)) := rfl
    rw [hr, Sem.run_bind, Array.mapM_eq_mapM_toList, Sem.run_map, r1]
    rfl
  rcases hx with rfl | rfl <;> exact hleaves
end
end Go.Ex

namespace Go.Ex
open Go

/-- a call is told: from these arguments and blocks it comes to this value and these blocks -/
def CallT (P : Program) (f : FuncId) (args : List Value) (S : St) (v : Value) (S' : St) : Prop :=
  ∀ D w rargs, RL D args rargs → RS D S w → Free D S.n S'.n → GL P D → ∀ m,
    CallsIn (FF none) m P f ⟨rargs⟩ w fun e w' => ∃ D' r, e = .returned r ∧ RV D' v r ∧ RS D' S' w' ∧ Fr D S w D' S' w'

section
variable {P : Program} {H : Hooks} {k : Nat}

theorem callT_of (hH : HooksOK P H) (hm : P.follows .mixedOrders = true) {f : FuncId} {args : List Value} {S S' : St} {v : Value} (h : callX (envH P H) k f args S = some (v, S')) (hb : HasBody P f) : CallT P f args S v S' :=
  (every_ok hH hm k).1 f args S v S' h hb

/-- a function whose body's pieces are told -/
theorem body_call {f : FuncId} {F : Func} {c : Code} (h1 : P.funcs[f]? = some F) (hb : F.body = some c) {args : List Value} {S S1 S2 : St} {x : X} {tm' : Tm} {l : List Value}
    (tri : Tri P (Nat.add args.length (Nat.sub F.ntmps args.length)) c ⟨Tr.ofList args 0 .nil, P.globals.size, []⟩ S x tm' S1)
    (hx : x = .normal ∨ x = .ret) (h7 : shutAll tm'.mks S1 = some S2) (hle : S1.n ≤ S2.n) (h11 : resV (envH P H) tm' S2 F.results.toList = some l) : CallT P f args S (oneV l) S2 := by
  intro D w rargs hargs hS hF hG m
  refine callsIn_of_wp_marks h1 hb trivial ?_
  have hA : RA D (Nat.add args.length (Nat.sub F.ntmps args.length)) ⟨Tr.ofList args 0 .nil, P.globals.size, []⟩ { tmps := (⟨rargs⟩ : Array Value) ++ Array.replicate (F.ntmps - (Array.mk rargs).size) undef, defers := [] } := by
    refine ⟨⟨?_, fun t u hu => ?_, fun g hg => hG g hg⟩, .nil⟩
    · simp [hargs.1]
    · have hu' : (Tr.ofList args 0 .nil).get t = some u := hu
      rw [Tr.get_list] at hu'
      obtain ⟨y, y1, y2⟩ := hargs.get hu'
      refine ⟨y, ?_, y2⟩
      have hlt : t < rargs.length := (List.getElem?_eq_some_iff.1 y1).1
      rw [Array.getElem?_append_left (by simpa using hlt)]
      simpa using y1
  refine tri D _ w hA rfl hG hS (hF.left hle) m _ ?_
  intro D1 a1 w1 hA1 hN1 hS1 hFr1
  have hleaves : LeavesInM (FF none) m P F a1.tmps (fun e w' => ∃ D' r, e = .returned r ∧ RV D' (oneV l) r ∧ RS D' S2 w' ∧ Fr D S w D' S2 w') a1.defers .returning w1 := by
    refine shutAll_ok h7 hA1.m hS1 fun w' q1 q2 => ?_
    obtain ⟨l', r1, r2⟩ := results_ok hA1.t q1 h11
    refine ⟨if h : (Array.mk l').size = 1 then (Array.mk l')[0] else .tuple ⟨l'⟩, ?_, D1, _, rfl, oneV_ok r2, q1, hFr1.trans q2⟩
    have hres : results F a1.tmps = (do let vs ← F.results.mapM (resF a1.tmps); pure (if h : vs.size = 1 then vs[0] else .tuple vs)) := rfl
    rw [hres, Sem.run_bind, Array.mapM_eq_mapM_toList, Sem.run_map, r1]
    rfl
  rcases hx with rfl | rfl <;> exact hleaves

/-- less is known at the call -/
theorem CallT.weak {f : FuncId} {args : List Value} {S0 S S' : St} {v : Value} (h : CallT P f args S0 v S') (hs : ∀ i o, S0.h.get i = some o → S.h.get i = some o) (hn : S0.n = S.n) (hw : S0.wm = 0) : CallT P f args S v S' := by
  intro D w rargs hargs hS hF hG m
  refine (h D w rargs hargs ⟨hS.rh.sub hs, fun i o e => by rw [hn]; exact hS.lt i o (hs i o e)⟩ (by rw [hn]; exact hF) hG m).mono ?_
  rintro e w' ⟨D', r, rfl, q2, q3, q4⟩
  refine ⟨D', r, rfl, q2, q3, ⟨by rw [← hn]; exact q4.n, fun i hi => q4.ext i (by rw [hn]; exact hi), q4.le, q4.size, q4.os, q4.tape, q4.output, fun b hb hno => q4.out b hb fun i o l e => hno i o l (hs i o e), fun i o l e hl => ?_, ?_, fun i hi hwm => ?_⟩⟩
  · rcases q4.img i o l e hl with c | ⟨i', o', l', c1, c2, c3⟩
    · exact .inl c
    · exact .inr ⟨i', o', l', hs _ _ c1, c2, c3⟩
  · have := q4.wm; rw [hw] at this; omega
  · have := q4.wm; rw [hw] at this; omega
end
end Go.Ex
