/-
  The evaluator's operations that touch no memory.
-/
/-
  The evaluator's operations that touch no memory: each as the model carries it out.
-/
import Derived.Test.YtombnejipaoinaaGreatExc
import GoSem.Dispatch
namespace Go.Ex
open Go

/-- an activation's places -/
abbrev RT (D : Dm) (n : Nat) (tm : Tm) (a : Act) : Prop := RTm D n tm a.tmps
theorem RT.mono {D D' : Dm} (hd : D.le D') {n : Nat} {tm : Tm} {a : Act} (h : RT D n tm a) : RT D' n tm a := RTm.mono hd h

section
variable {D : Dm} {n : Nat} {tm : Tm} {a : Act}
theorem evO_ok (ht : RT D n tm a) {x : Operand} {v : Value} (h : evO tm x = some v) : RV D v (a.eval x) := by
  cases x with
  | tmp t =>
    obtain ⟨r, h1, h2⟩ := ht.get t v h
    have : a.eval (.tmp t) = r := by simp [Act.eval, h1]
    rw [this]; exact h2
  | const c =>
    obtain ⟨h1, h2⟩ := gd_some.1 h
    cases h2
    exact pl_rv 8 _ h1
  | global g =>
    obtain ⟨h1, h2⟩ := gd_some.1 h
    cases h2
    obtain ⟨l, h3, h4, h5⟩ := ht.gl g (Nat.le_of_ble_eq_true h1)
    have := RV.ptr (D := D) g 0 l h3
    rw [h4, h5] at this
    exact this
  | func f => cases h; exact RV.func' RL.nil RL.nil
theorem evL_ok (ht : RT D n tm a) : ∀ {l : List Operand} {vs : List Value}, evL tm l = some vs → RL D vs (l.map a.eval)
  | [], vs, h => by cases h; exact .nil
  | x :: r, vs, h => by
    obtain ⟨v, h1, h2⟩ := ob_some.1 h
    obtain ⟨l, h3, h4⟩ := ob_some.1 h2
    cases h4
    exact .cons (evO_ok ht h1) (evL_ok ht h3)
theorem evP_ok (ht : RT D n tm a) : ∀ {l : List (Nat × Operand)} {vs : List (Nat × Value)}, evP tm l = some vs → vs.map (·.1) = l.map (·.1) ∧ RL D (vs.map (·.2)) (l.map fun x => a.eval x.2)
  | [], vs, h => by cases h; exact ⟨rfl, .nil⟩
  | x :: r, vs, h => by
    obtain ⟨v, h1, h2⟩ := ob_some.1 h
    obtain ⟨l, h3, h4⟩ := ob_some.1 h2
    cases h4
    obtain ⟨h5, h6⟩ := evP_ok ht h3
    exact ⟨by simp [h5], .cons (evO_ok ht h1) h6⟩
/-- an operand that may be left out -/
inductive RM (D : Dm) : Option Value → Option Value → Prop
  | none : RM D none none
  | some (v r : Value) : RV D v r → RM D (some v) (some r)
theorem evM_ok (ht : RT D n tm a) {x : Option Operand} {v : Option Value} (h : evM tm x = some v) : RM D v (x.map a.eval) := by
  cases x with
  | none => cases h; exact .none
  | some x =>
    obtain ⟨v, h1, h2⟩ := ob_some.1 h
    cases h2
    exact .some _ _ (evO_ok ht h1)
end

section
variable {P : Program} {H : Hooks}
theorem env_T {t : TypeId} {i : TI} (h : (envH P H).T.get t = some i) : P.info? t = some i.i ∧ i.u = match i.i.desc with | .named _ u => (P.info? u).map (·.desc) | d => some d := by
  have h' : (Tr.ofList (P.types.toList.map fun i => (⟨i, match i.desc with | .named _ u => (P.info? u).map (·.desc) | d => some d⟩ : TI)) 0 .nil).get t = some i := h
  rw [Tr.get_list] at h'
  simp only [List.getElem?_map, Array.getElem?_toList] at h'
  cases hi : P.types[t]? with
  | none => rw [hi] at h'; cases h'
  | some x =>
    rw [hi] at h'
    simp only [Option.map_some, Option.some.injEq] at h'
    subst h'
    refine ⟨?_, rfl⟩
    show (if t < P.types.size then P.types[t]? else _) = _
    rw [if_pos (Array.getElem?_eq_some_iff.1 hi).1, hi]
theorem env_F (f : FuncId) : (envH P H).F.get f = P.funcs[f]? := by
  show (Tr.ofList _ 0 .nil).get f = _
  rw [Tr.get_list, Array.getElem?_toList]
theorem und_ok {t : TypeId} {d : TypeDesc} (h : und (envH P H) t = some d) : P.underlying t = some d := by
  obtain ⟨i, h1, h2⟩ := ob_some.1 h
  obtain ⟨h3, h4⟩ := env_T h1
  rw [h4] at h2
  unfold Program.underlying
  rw [h3]
  obtain ⟨⟨desc, s1, s2, s3, s4, s5, s6, s7, s8, s9⟩, u⟩ := i
  cases desc <;> exact h2
theorem typ_ok {t : TypeId} {i : TI} (h : typ (envH P H) t = some i) : P.info? t = some i.i := (env_T h).1
theorem run_under {t : TypeId} {d : TypeDesc} (h : und (envH P H) t = some d) (w : World) : (underlying t).run P w = .ok d w := run_underlying (und_ok h) w
theorem run_info {t : TypeId} {i : TypeInfo} (h : P.info? t = some i) (w : World) : (typeInfo t).run P w = .ok i w := by
  simp [typeInfo, h]
theorem run_size {t : TypeId} {n : Nat} (h : sz (envH P H) t = some n) (w : World) : (sizeOf t).run P w = .ok n w := by
  obtain ⟨i, h1, h2⟩ := ob_some.1 h
  cases h2
  simp [sizeOf, run_info (typ_ok h1)]
theorem run_zero {t : TypeId} {v : Value} (h : zer (envH P H) t = some v) (w : World) : (zeroValue t).run P w = .ok v w ∧ pl 4 v = true := by
  obtain ⟨i, h1, h2⟩ := ob_some.1 h
  obtain ⟨z, h3, h4⟩ := ob_some.1 h2
  obtain ⟨h5, h6⟩ := gd_some.1 h4
  cases h6
  exact ⟨by simp [zeroValue, run_info (typ_ok h1), h3], h5⟩
theorem run_shp {t : TypeId} {s : Bool × Nat} (h : shp (envH P H) t = some s) (w : World) : (isAgg t).run P w = .ok s.1 w ∧ (sizeOf t).run P w = .ok s.2 w := by
  obtain ⟨i, h1, h2⟩ := ob_some.1 h
  obtain ⟨u, h3, h4⟩ := ob_some.1 h2
  cases h4
  have hu : und (envH P H) t = some u := ob_some.2 ⟨i, h1, h3⟩
  refine ⟨?_, ?_⟩
  · simp only [isAgg, Sem.run_bind, run_under hu, Result.andThen_ok]
    cases u <;> rfl
  · exact run_size (ob_some.2 ⟨i, h1, rfl⟩) w
theorem run_elS {t : TypeId} {e : TypeId × Nat} (h : elS (envH P H) t = some e) : und (envH P H) t = some (.slice e.1) ∧ sz (envH P H) e.1 = some e.2 := by
  obtain ⟨d, h1, h2⟩ := ob_some.1 h
  cases d <;> first
    | (simp only at h2
       obtain ⟨n, h3, h4⟩ := ob_some.1 h2
       cases h4
       exact ⟨h1, h3⟩)
    | (simp at h2; done)
end

theorem takeX_ok {D : Dm} : ∀ {l : List Value} {o n : Nat} {r : List Value}, takeX l o n = some r → r.length = n ∧ ∀ i x, r[i]? = some x → l[o + i]? = some x
  | l, 0, 0, r, h => by simp [takeX] at h; subst h; exact ⟨rfl, fun i x hx => by simp at hx⟩
  | [], 0, n + 1, r, h => by simp [takeX] at h
  | x :: l, 0, n + 1, r, h => by
    simp only [takeX] at h
    obtain ⟨s, h1, h2⟩ := ob_some.1 h
    cases h2
    obtain ⟨h3, h4⟩ := takeX_ok (D := D) h1
    refine ⟨by simp [h3], fun i y hy => ?_⟩
    cases i with
    | zero => simpa using hy
    | succ i => simp at hy ⊢; simpa using h4 i y hy
  | x :: l, k + 1, n, r, h => by
    simp only [takeX] at h
    obtain ⟨h3, h4⟩ := takeX_ok (D := D) h
    refine ⟨h3, fun i y hy => ?_⟩
    rw [show k + 1 + i = (k + i) + 1 by omega, List.getElem?_cons_succ]
    exact h4 i y hy
  | [], k + 1, n, r, h => by simp [takeX] at h
theorem setX_ok : ∀ {l : List Value} {o : Nat} {vs r : List Value}, setX l o vs = some r → r.length = l.length ∧ o + vs.length ≤ l.length ∧ ∀ i, r[i]? = if o ≤ i ∧ i < o + vs.length then vs[i - o]? else l[i]?
  | l, 0, [], r, h => by simp [setX] at h; subst h; exact ⟨rfl, by simp, fun i => by simp⟩
  | [], 0, v :: vs, r, h => by simp [setX] at h
  | x :: l, 0, v :: vs, r, h => by
    simp only [setX] at h
    obtain ⟨s, h1, h2⟩ := ob_some.1 h
    cases h2
    obtain ⟨h3, h5, h6⟩ := setX_ok h1
    refine ⟨by simp [h3], by simp; omega, fun i => ?_⟩
    cases i with
    | zero => simp
    | succ i =>
      rw [List.getElem?_cons_succ, h6 i]
      by_cases c : i < vs.length
      · rw [if_pos (by omega), if_pos (by simp; omega)]; simp
      · rw [if_neg (by omega), if_neg (by simp; omega)]; simp
  | x :: l, k + 1, vs, r, h => by
    simp only [setX] at h
    obtain ⟨s, h1, h2⟩ := ob_some.1 h
    cases h2
    obtain ⟨h3, h5, h6⟩ := setX_ok h1
    refine ⟨by simp [h3], by simp; omega, fun i => ?_⟩
    cases i with
    | zero => rw [if_neg (by omega)]; simp
    | succ i =>
      rw [List.getElem?_cons_succ, h6 i]
      by_cases c : k ≤ i ∧ i < k + vs.length
      · rw [if_pos c, if_pos (by omega)]; simp
      · rw [if_neg c, if_neg (by omega)]; simp
  | [], k + 1, vs, r, h => by simp [setX] at h

section
variable {D : Dm}
theorem RL.setX {l l' vs vs' r : List Value} {o : Nat} (hl : RL D l l') (hv : RL D vs vs') (h : setX l o vs = some r) : ∃ r', Ex.setX l' o vs' = some r' ∧ RL D r r' := by
  induction o generalizing l l' r with
  | zero =>
    induction vs generalizing l l' r vs' with
    | nil =>
      rw [hv.nil_inv]
      simp [Ex.setX] at h; subst h
      exact ⟨l', by simp [Ex.setX], hl⟩
    | cons v vs ih =>
      obtain ⟨v', vr, rfl, hv1, hv2⟩ := hv.cons_inv
      cases l with
      | nil => simp [Ex.setX] at h
      | cons x l =>
        obtain ⟨x', lr, rfl, hx1, hx2⟩ := hl.cons_inv
        simp only [Ex.setX] at h
        obtain ⟨s, h1, h2⟩ := ob_some.1 h
        cases h2
        obtain ⟨s', h3, h4⟩ := ih hv2 hx2 h1
        exact ⟨v' :: s', by simp only [Ex.setX]; exact ob_some.2 ⟨s', h3, rfl⟩, .cons hv1 h4⟩
  | succ k ih =>
    cases l with
    | nil => simp [Ex.setX] at h
    | cons x l =>
      obtain ⟨x', lr, rfl, hx1, hx2⟩ := hl.cons_inv
      simp only [Ex.setX] at h
      obtain ⟨s, h1, h2⟩ := ob_some.1 h
      cases h2
      obtain ⟨s', h3, h4⟩ := ih hx2 h1
      exact ⟨x' :: s', by simp only [Ex.setX]; exact ob_some.2 ⟨s', h3, rfl⟩, .cons hx1 h4⟩
theorem RL.takeX {l l' r : List Value} {o n : Nat} (hl : RL D l l') (h : takeX l o n = some r) : ∃ r', Ex.takeX l' o n = some r' ∧ RL D r r' := by
  induction o generalizing l l' r with
  | zero =>
    induction n generalizing l l' r with
    | zero => simp [Ex.takeX] at h; subst h; exact ⟨[], by simp [Ex.takeX], .nil⟩
    | succ n ih =>
      cases l with
      | nil => simp [Ex.takeX] at h
      | cons x l =>
        obtain ⟨x', lr, rfl, hx1, hx2⟩ := hl.cons_inv
        simp only [Ex.takeX] at h
        obtain ⟨s, h1, h2⟩ := ob_some.1 h
        cases h2
        obtain ⟨s', h3, h4⟩ := ih hx2 h1
        exact ⟨x' :: s', by simp only [Ex.takeX]; exact ob_some.2 ⟨s', h3, rfl⟩, .cons hx1 h4⟩
  | succ k ih =>
    cases l with
    | nil => simp [Ex.takeX] at h
    | cons x l =>
      obtain ⟨x', lr, rfl, hx1, hx2⟩ := hl.cons_inv
      simp only [Ex.takeX] at h
      obtain ⟨s', h3, h4⟩ := ih hx2 h
      exact ⟨s', by simp only [Ex.takeX]; exact h3, h4⟩
end
theorem takeX_eq : ∀ {l : List Value} {o n : Nat} {r : List Value}, takeX l o n = some r → r = (l.drop o).take n
  | l, 0, 0, r, h => by simp [takeX] at h; subst h; simp
  | [], 0, n + 1, r, h => by simp [takeX] at h
  | x :: l, 0, n + 1, r, h => by
    simp only [takeX] at h
    obtain ⟨s, h1, h2⟩ := ob_some.1 h
    cases h2
    rw [takeX_eq h1]; simp
  | x :: l, k + 1, n, r, h => by
    simp only [takeX] at h
    rw [takeX_eq h]; simp
  | [], k + 1, n, r, h => by simp [takeX] at h

end Go.Ex

namespace Go.Ex
open Go

section
variable {D : Dm} {n : Nat} {tm : Tm} {a : Act} {P : Program} {H : Hooks}

theorem RV.agg_inv {cs : Array Value} {r : Value} (h : RV D (.agg cs) r) : ∃ l', r = .agg ⟨l'⟩ ∧ RL D cs.toList l' := by
  cases h with
  | agg a a' h1 h2 => exact ⟨a', rfl, h1, h2⟩
theorem RV.tuple_inv {cs : Array Value} {r : Value} (h : RV D (.tuple cs) r) : ∃ l', r = .tuple ⟨l'⟩ ∧ RL D cs.toList l' := by
  cases h with
  | tuple a a' h1 h2 => exact ⟨a', rfl, h1, h2⟩
theorem RV.int_inv {k : IntKind} {i : Int} {r : Value} (h : RV D (.int k i) r) : r = .int k i := by cases h; rfl
theorem RV.bool_inv {b : Bool} {r : Value} (h : RV D (.bool b) r) : r = .bool b := by cases h; rfl
theorem RV.string_inv {b : ByteArray} {r : Value} (h : RV D (.string b) r) : r = .string b := by cases h; rfl
theorem intV_ok {v r : Value} {i : Int} (h : intV v = some i) (hr : RV D v r) : ∃ k, r = .int k i := by
  cases hr <;> simp [intV] at h
  subst h; exact ⟨_, rfl⟩
theorem adr_ok {v r : Value} {p : Nat × Nat} (h : adr v = some p) (hr : RV D v r) : ∃ l, D p.1 = some l ∧ r = .pointer (some ⟨l.b, p.2 + l.sh, none⟩) ∧ v = .pointer (some ⟨p.1, p.2, none⟩) := by
  cases hr <;> simp [adr] at h
  subst h
  exact ⟨_, by assumption, rfl, rfl⟩
theorem run_asInt {r : Value} {k : IntKind} {i : Int} (h : r = .int k i) (w : World) : (asIntOf r).run P w = .ok (k, i) w := by subst h; rfl

theorem run_part {t : TypeId} {cs cs' : List Value} {off : Nat} {v : Value} (h : partV (envH P H) t cs off = some v) (hc : RL D cs cs') (w : World) : ∃ r, (part t ⟨cs'⟩ off).run P w = .ok r w ∧ RV D v r := by
  obtain ⟨s, h1, h2⟩ := ob_some.1 h
  obtain ⟨h3, h4⟩ := run_shp h1 w
  obtain ⟨b, m⟩ := s
  simp only at h2 h3 h4
  simp only [part, Sem.run_bind, h3, Result.andThen_ok]
  cases b with
  | false =>
    obtain ⟨y, hy, hr⟩ := hc.get h2
    refine ⟨y, ?_, hr⟩
    simp [hy]
  | true =>
    obtain ⟨l, h5, h6⟩ := ob_some.1 h2
    cases h6
    obtain ⟨l', h7, h8⟩ := hc.takeX h5
    refine ⟨.agg ⟨l'⟩, ?_, RV.agg' h8⟩
    have e := takeX_eq h7
    simp only [if_true, Sem.run_bind, h4, Result.andThen_ok, Sem.run_pure]
    congr 2
    rw [e]
    simp []

theorem run_bound {y : Nat} {v r : Value} {m : Nat} {c : BoundsCode} (h : boundV y v = some m) (hr : RV D v r) (w : World) : (Instr.sliceBound r y c).run P w = .ok m w := by
  obtain ⟨i, h1, h2⟩ := ob_some.1 h
  obtain ⟨h3, h4⟩ := gd_some.1 h2
  cases h4
  obtain ⟨k, rfl⟩ := intV_ok h1 hr
  have hb := of_decide_eq_true h3
  simp only [Instr.sliceBound, asIntOf, Sem.run_bind, Sem.run_pure, Result.andThen_ok, if_pos hb]

theorem fold_set (o : Nat) : ∀ (vs : List Value) (k : Nat) (A : Array Value), ((vs.zipIdx k).foldl (fun cs (x : Value × Nat) => cs.setIfInBounds (o + x.2) x.1) A).size = A.size ∧
    ∀ i, ((vs.zipIdx k).foldl (fun cs (x : Value × Nat) => cs.setIfInBounds (o + x.2) x.1) A)[i]? = if o + k ≤ i ∧ i < o + k + vs.length ∧ i < A.size then vs[i - (o + k)]? else A[i]?
  | [], k, A => ⟨rfl, fun i => by rw [if_neg (by simp; omega)]; rfl⟩
  | v :: vs, k, A => by
    obtain ⟨h1, h2⟩ := fold_set o vs (k + 1) (A.setIfInBounds (o + k) v)
    rw [List.zipIdx_cons, List.foldl_cons]
    refine ⟨by rw [h1]; simp, fun i => ?_⟩
    rw [h2]
    simp only [Array.size_setIfInBounds]
    by_cases c : o + (k + 1) ≤ i ∧ i < o + (k + 1) + vs.length ∧ i < A.size
    · rw [if_pos c, if_pos (by simp; omega), show i - (o + k) = (i - (o + (k + 1))) + 1 by omega, List.getElem?_cons_succ]
    · rw [if_neg c]
      by_cases e : i = o + k
      · subst e
        by_cases c2 : o + k < A.size
        · rw [if_pos (by simp; omega)]; simp [c2]
        · rw [if_neg (by omega), Array.getElem?_eq_none (by simp; omega), Array.getElem?_eq_none (by omega)]
      · rw [if_neg (by simp; omega), Array.getElem?_setIfInBounds_ne (by omega)]
theorem fill_fold {cs : List Value} {off : Nat} {va : Array Value} {r : List Value} (h : setX cs off va.toList = some r) : (va.zipIdx.foldl (fun (cs : Array Value) (x : Value × Nat) => cs.setIfInBounds (off + x.2) x.1) (Array.mk cs)) = Array.mk r := by
  obtain ⟨k1, k2, k3⟩ := setX_ok h
  obtain ⟨vs⟩ := va
  have e : (Array.mk vs).zipIdx.foldl (fun (cs : Array Value) (x : Value × Nat) => cs.setIfInBounds (off + x.2) x.1) (Array.mk cs) = (vs.zipIdx 0).foldl (fun (cs : Array Value) (x : Value × Nat) => cs.setIfInBounds (off + x.2) x.1) (Array.mk cs) := by
    rw [← Array.foldl_toList]; simp
  rw [e]
  obtain ⟨h1, h2⟩ := fold_set off vs 0 (Array.mk cs)
  refine Array.ext_getElem? fun i => ?_
  rw [h2 i]
  rw [show (Array.mk r)[i]? = r[i]? from by simp, k3 i]
  simp only at k2
  by_cases c : off ≤ i ∧ i < off + vs.length
  · rw [if_pos c, if_pos (by simp; omega)]; simp
  · rw [if_neg c, if_neg (by simp; omega)]; simp

theorem fill_ok {pv pr : Nat → Option (Nat × Nat)} (hp : ∀ i x, pv i = some x → pr i = some x) : ∀ {ps : List (Nat × Value)} {ps' : List (Nat × Value)} {cs : List Value} {cs' : List Value} {c : List Value}, fillV pv cs ps = some c → ps'.map (·.1) = ps.map (·.1) → RL D (ps.map (·.2)) (ps'.map (·.2)) → RL D cs cs' → ∃ c', Instr.fill pr ⟨cs'⟩ ps' = some ⟨c'⟩ ∧ RL D c c'
  | [], ps', cs, cs', c, h, h1, h2, h3 => by
    simp [fillV] at h; subst h
    cases ps' with
    | nil => exact ⟨cs', rfl, h3⟩
    | cons => simp at h1
  | (i, v) :: ps, ps', cs, cs', c, h, h1, h2, h3 => by
    cases ps' with
    | nil => simp at h1
    | cons q ps' =>
      obtain ⟨i', v'⟩ := q
      simp only [List.map_cons, List.cons.injEq] at h1 h2
      obtain ⟨rfl, h1⟩ := h1
      simp only [fillV] at h
      obtain ⟨⟨off, size⟩, h4, h5⟩ := ob_some.1 h
      obtain ⟨h6, h7⟩ := gd_some.1 h5
      obtain ⟨c1, h8, h9⟩ := ob_some.1 h7
      obtain ⟨y, r, e, hv, hr⟩ := h2.cons_inv
      simp only [List.cons.injEq] at e
      obtain ⟨rfl, rfl⟩ := e
      have hvc := hv.cells
      obtain ⟨c1', h10, h11⟩ := h3.setX hvc h8
      obtain ⟨c', h12, h13⟩ := fill_ok hp h9 h1 hr h11
      refine ⟨c', ?_, h13⟩
      have hs : v'.cells.size = size := by
        have := Nat.eq_of_beq_eq_true h6
        have h14 := hvc.1
        simp only at this
        simp only [Array.length_toList] at h14 this
        omega
      obtain ⟨k1, k2, k3⟩ := setX_ok h10
      rw [Array.length_toList] at k2
      simp only [Instr.fill, hp _ _ h4]
      rw [if_neg (by simp [hs]; omega), fill_fold h10]
      exact h12

theorem places_ok : ∀ {fs : List Field} {l : List (Nat × Nat)} (_ : places (envH P H) fs = some l) (w : World), (fs.mapM fun (f : Field) => (do pure (f.offset, ← sizeOf f.type) : Sem (Nat × Nat))).run P w = .ok l w
  | [], l, h, w => by cases h; rfl
  | f :: r, l, h, w => by
    simp only [places] at h
    obtain ⟨m, h1, h2⟩ := ob_some.1 h
    obtain ⟨l', h3, h4⟩ := ob_some.1 h2
    cases h4
    have ih := places_ok h3 w
    simp only [List.mapM_cons, Sem.run_bind, run_size h1, Result.andThen_ok, Sem.run_pure, ih]

theorem run_v {s : Sem Value} {r : Value} {w w' : World} (h : s.run P w = .ok r w') : (do pure (Next.value (← s)) : Sem Next).run P w = .ok (.value r) w' := by
  simp [h]

theorem add_none (b o k : Nat) : (Addr.mk b o none).add k = ⟨b, o + k, none⟩ := by
  unfold Addr.add
  split
  · next h => subst h; rfl
  · rfl

theorem ba_get (s : ByteArray) (i : Nat) : s[i]? = s.data.toList[i]? := by
  by_cases h : i < s.size
  · rw [getElem?_pos s i h, Array.getElem?_toList, Array.getElem?_eq_getElem (show i < s.data.size from h)]; rfl
  · rw [getElem?_neg s i h, Array.getElem?_toList, Array.getElem?_eq_none (Nat.le_of_not_lt h)]

theorem fOff_ok {t : TypeId} {f o : Nat} (h : fOff (envH P H) t f = some o) : ∃ fs x m, und (envH P H) t = some (.struct fs) ∧ fs[f]? = some x ∧ x.offset = o ∧ sz (envH P H) x.type = some m ∧ m ≠ 0 := by
  obtain ⟨x, h1, h2⟩ := ob_some.1 h
  obtain ⟨m, h3, h4⟩ := ob_some.1 h2
  obtain ⟨h5, h6⟩ := gd_some.1 h4
  obtain ⟨d, h7, h8⟩ := ob_some.1 h1
  cases d with
  | struct fs =>
    simp only [Array.getElem?_toList] at h8
    exact ⟨fs, x, m, h7, h8, by simpa using h6, h3, by have := Nat.le_of_ble_eq_true h5; omega⟩
  | _ => simp at h8
theorem fld_ok {t : TypeId} {f : Nat} {x : Field} (h : fld (envH P H) t f = some x) : ∃ fs, und (envH P H) t = some (.struct fs) ∧ fs[f]? = some x := by
  obtain ⟨d, h7, h8⟩ := ob_some.1 h
  cases d with
  | struct fs => exact ⟨fs, h7, by simpa using h8⟩
  | _ => simp at h8

theorem bin_nil {op : BinOp} {t : TypeId} {x y : Operand} {u v u' v' : Value} {d : TypeDesc} (hd : und (envH P H) t = some d) (hn : nilEq d u v = true) (hu : RV D u u') (hv : RV D v v') (w : World) :
    (Op.equal t u' v').run P w = .ok false w ∧ (eqGuard op t x y u' v').run P w = .ok () w := by
  have hund := run_under hd w
  have e1 : (Op.equal t u' v').run P w = .ok false w := by
    unfold Op.equal
    rw [show Op.maxDepth = 9999 + 1 from rfl]
    unfold Op.equalIn
    simp only [Sem.run_bind, hund, Result.andThen_ok]
    unfold nilEq at hn
    split at hn <;> first
      | (cases hn; done)
      | (cases hu <;> cases hv <;> rfl)
  have e2 : (eqGuard op t x y u' v').run P w = .ok () w := by
    unfold nilEq at hn
    split at hn <;> first
      | (cases hn; done)
      | (cases hu <;> cases hv <;> cases op <;> rfl)
  exact ⟨e1, e2⟩
theorem run_eql {t : TypeId} {u v u' v' : Value} {d : TypeDesc} (hn : nilEq d u v = true) (hu : RV D u u') (hv : RV D v v') {w : World} (h : (Op.equal t u' v').run P w = .ok false w) : (binOp .eql t u' v').run P w = .ok (.bool false) w := by
  have : binOp .eql t u' v' = (do pure (.bool (← Op.equal t u' v'))) := by
    unfold nilEq at hn
    split at hn <;> first
      | (cases hn; done)
      | (cases hu <;> cases hv <;> rfl)
  rw [this]
  simp [h]
theorem run_neq {t : TypeId} {u v u' v' : Value} {d : TypeDesc} (hn : nilEq d u v = true) (hu : RV D u u') (hv : RV D v v') {w : World} (h : (Op.equal t u' v').run P w = .ok false w) : (binOp .neq t u' v').run P w = .ok (.bool true) w := by
  have : binOp .neq t u' v' = (do pure (.bool (!(← Op.equal t u' v')))) := by
    unfold nilEq at hn
    split at hn <;> first
      | (cases hn; done)
      | (cases hu <;> cases hv <;> rfl)
  rw [this]
  simp [h]
theorem pl2 {v r : Value} {k : Nat} (h : pl k v = true) (hr : RV D v r) : r = v := pl_eq k v r h hr

theorem bound_le {y y' m : Nat} {v : Value} (h : boundV y v = some m) (hy : y ≤ y') : boundV y' v = some m ∧ m ≤ y := by
  obtain ⟨i, h1, h2⟩ := ob_some.1 h
  obtain ⟨h3, h4⟩ := gd_some.1 h2
  cases h4
  have hb := of_decide_eq_true h3
  exact ⟨ob_some.2 ⟨i, h1, gd_some.2 ⟨decide_eq_true (by omega), rfl⟩⟩, by omega⟩
theorem run_bounds {b : Bool} {len cap cap' : Nat} {lo hi mx lo' hi' mx' : Option Value} {r : Nat × Nat × Nat} (h : boundsV len cap lo hi mx = some r) (hc : cap ≤ cap') (hlo : RM D lo lo') (hhi : RM D hi hi') (hmx : RM D mx mx') (w : World) :
    (Instr.sliceBounds b len cap' lo' hi' mx').run P w = .ok (r.1, r.2.1, if mx.isNone then cap' else r.2.2) w ∧ r.1 ≤ r.2.1 ∧ (r.2.1 ≤ r.2.2 ∨ r.2.1 = len) ∧ r.2.2 ≤ cap ∧ (mx = none → r.2.2 = cap) := by
  obtain ⟨m, h1, h2⟩ := ob_some.1 h
  obtain ⟨h3, h4⟩ := gd_some.1 h2
  obtain ⟨hh, h5, h6⟩ := ob_some.1 h4
  obtain ⟨l, h7, h8⟩ := ob_some.1 h6
  cases h8
  have kl : l ≤ hh := by
    cases lo with
    | none => cases h7; exact Nat.zero_le _
    | some v => exact (bound_le h7 (Nat.le_refl _)).2
  have km : m ≤ cap := by
    cases mx with
    | none => cases h1; exact Nat.le_refl _
    | some v => exact (bound_le h1 (Nat.le_refl _)).2
  have kh : hh ≤ m ∨ hh = len := by
    cases hi with
    | none => cases h5; exact .inr (by simp)
    | some v => exact .inl (bound_le h5 (Nat.le_refl _)).2
  have kn : mx = none → m = cap := fun e => by subst e; cases h1; simp
  refine ⟨?_, kl, kh, km, kn⟩
  simp only
  cases hmx with
  | none =>
    cases h1
    cases hhi with
    | none =>
      cases h5
      cases hlo with
      | none => cases h7; simp [Instr.sliceBounds]
      | some v r hr => simp [Instr.sliceBounds, run_bound h7 hr w (P := P)]
    | some v2 r2 hr2 =>
      have k2 := fun c => run_bound (c := c) (bound_le h5 hc).1 hr2 w (P := P)
      cases hlo with
      | none => cases h7; simp [Instr.sliceBounds, k2]
      | some v r hr => simp [Instr.sliceBounds, k2, run_bound h7 hr w (P := P)]
  | some v3 r3 hr3 =>
    have k3 := fun c => run_bound (c := c) (bound_le h1 hc).1 hr3 w (P := P)
    cases hhi with
    | none => simp at h3
    | some v2 r2 hr2 =>
      have k2 := fun c => run_bound (c := c) h5 hr2 w (P := P)
      cases hlo with
      | none => cases h7; simp [Instr.sliceBounds, k2, k3]
      | some v r hr => simp [Instr.sliceBounds, k2, k3, run_bound h7 hr w (P := P)]

theorem run_slice {t : TypeId} {x x' v : Value} {lo hi mx lo' hi' mx' : Option Value} (h : sliceV (envH P H) t x lo hi mx = some v) (hx : RV D x x') (hlo : RM D lo lo') (hhi : RM D hi hi') (hmx : RM D mx mx') (w : World) :
    ∃ r, (Instr.sliceAt t x' lo' hi' mx').run P w = .ok r w ∧ RV D v r := by
  obtain ⟨d, h1, h2⟩ := ob_some.1 h
  have hd := run_under h1 w
  cases hx with
  | string s =>
    cases d with
    | string =>
      simp only at h2
      obtain ⟨h3, h4⟩ := gd_some.1 h2
      obtain ⟨b, h5, h6⟩ := ob_some.1 h4
      cases h6
      cases hmx with
      | some => simp at h3
      | none =>
        have k := (run_bounds (b := false) h5 (Nat.le_refl _) hlo hhi .none w (P := P)).1
        refine ⟨_, ?_, .string _⟩
        simp only [Instr.sliceAt, Sem.run_bind, hd, Result.andThen_ok, Instr.slice, Option.isSome_none, Bool.false_eq_true, if_false, k, Sem.run_pure]
    | _ => simp at h2
  | nilSlc =>
    cases d with
    | slice el =>
      simp only at h2
      obtain ⟨-, h2⟩ := gd_some.1 h2
      obtain ⟨size, h3, h4⟩ := ob_some.1 h2
      obtain ⟨b, h5, h6⟩ := ob_some.1 h4
      cases h6
      obtain ⟨k1, k2, k3, k4, k5⟩ := run_bounds (b := true) h5 (Nat.le_refl _) hlo hhi hmx w (P := P)
      have e0 : b.2.2 = 0 := by omega
      have e1 : b.2.1 = 0 := by omega
      have e2 : b.1 = 0 := by omega
      have k6 : (if mx.isNone = true then 0 else b.2.2) = 0 := by rw [e0]; simp
      rw [k6, e1, e2] at k1
      refine ⟨.slice none 0 0, ?_, .nilSlc⟩
      simp only [Instr.sliceAt, Sem.run_bind, hd, Result.andThen_ok, Instr.slice, k1, run_size h3, Sem.run_pure]
      rfl
    | _ => simp at h2
  | slc i off l len cap hl hc =>
    cases d with
    | slice el =>
      simp only at h2
      obtain ⟨size, h3, h4⟩ := ob_some.1 h2
      rw [brec] at h4
      have hcb : Nat.ble BIG cap = false := by
        cases c : Nat.ble BIG cap with
        | false => rfl
        | true => have := Nat.le_of_ble_eq_true c; omega
      rw [hcb] at h4
      simp only [cond_false] at h4
      obtain ⟨b, h5, h6⟩ := ob_some.1 h4
      cases h6
      obtain ⟨k1, k2, k3, k4, k5⟩ := run_bounds (b := true) h5 (Nat.le_refl _) hlo hhi hmx w (P := P)
      have k6 : (if mx.isNone = true then cap else b.2.2) = b.2.2 := by
        cases mx with
        | none => exact (k5 rfl).symm
        | some => rfl
      rw [k6] at k1
      refine ⟨.slice (some ⟨l.b, (bif Nat.beq b.2.2 b.1 then off else off + b.1 * size) + l.sh, none⟩) (b.2.1 - b.1) (b.2.2 - b.1), ?_, ?_⟩
      · simp only [Instr.sliceAt, Sem.run_bind, hd, Result.andThen_ok, Instr.slice, k1, run_size h3, Sem.run_pure]
        congr 2
        cases e : Nat.beq b.2.2 b.1 with
        | true => rw [if_pos (Nat.eq_of_beq_eq_true e)]; rfl
        | false =>
          rw [if_neg (Nat.ne_of_beq_eq_false e)]
          simp only [Option.map_some, add_none, cond_false]
          rw [show off + l.sh + b.1 * size = off + b.1 * size + l.sh by omega]
      · rw [brec]
        exact .slc _ _ l _ _ hl (by simp only [Nat.sub_eq]; omega)
    | _ => simp at h2
  | slcE a c =>
    cases d with
    | slice el =>
      simp only at h2
      obtain ⟨h3, -⟩ := gd_some.1 h2
      exact absurd (Nat.eq_of_beq_eq_true h3) (by decide)
    | _ => simp at h2
  | slcU i off l len s mc rc hl p1 p0 p2 p4 p5 p3 =>
    cases d with
    | slice el =>
      simp only at h2
      obtain ⟨size, h3, h4⟩ := ob_some.1 h2
      rw [brec, unk_ble] at h4
      simp only [cond_true] at h4
      obtain ⟨h7, h8⟩ := gd_some.1 h4
      rw [scV_unk p0, mcV_unk p0] at *
      simp only [Bool.and_eq_true] at h7
      have e0 : s = size := Nat.eq_of_beq_eq_true h7.2
      subst e0
      obtain ⟨b, h5, h6⟩ := ob_some.1 h8
      obtain ⟨k1, k2, k3, k4, k5⟩ := run_bounds (b := true) h5 p4 hlo hhi hmx w (P := P)
      rw [brec] at h6
      cases hmx with
      | none =>
        simp only [Option.isNone_none, cond_true] at h6
        rw [brec] at h6
        simp only [Option.isNone_none, if_true] at k1
        have k7 := k5 rfl
        cases hz : (Nat.beq b.1 0 || Nat.blt b.1 mc) with
        | true =>
          rw [hz] at h6
          simp only [cond_true, Option.some.injEq] at h6
          subst h6
          have hb : b.1 = 0 ∨ b.1 < mc := by
            simp only [Bool.or_eq_true] at hz
            rcases hz with h9 | h9
            · exact .inl (Nat.eq_of_beq_eq_true h9)
            · exact .inr (Nat.le_of_ble_eq_true h9)
          refine ⟨.slice (some ⟨l.b, off + b.1 * s + l.sh, none⟩) (b.2.1 - b.1) (rc - b.1), ?_, ?_⟩
          · simp only [Instr.sliceAt, Sem.run_bind, hd, Result.andThen_ok, Instr.slice, k1, run_size h3, Sem.run_pure]
            congr 2
            by_cases e : rc = b.1
            · rw [if_pos e]
              rcases hb with hb | hb
              · rw [hb]; simp
              · omega
            · rw [if_neg e]
              simp only [Option.map_some, add_none]
              rw [show off + l.sh + b.1 * s = off + b.1 * s + l.sh by omega]
          · refine .slcU _ _ l _ _ _ _ hl p1 p0 (by simp only [Nat.sub_eq]; omega) (by simp only [Nat.sub_eq]; omega) (by simp only [Nat.sub_eq]; omega) ?_
            have e : (rc - b.1) * s + b.1 * s = rc * s := by rw [← Nat.add_mul]; congr 1; omega
            simp only [Nat.mul_eq, Nat.add_eq]; omega
        | false =>
          rw [hz] at h6
          simp only [cond_false] at h6
          obtain ⟨h9, h10⟩ := gd_some.1 h6
          cases h10
          have e1 : b.2.1 = b.1 := Nat.eq_of_beq_eq_true h9
          refine ⟨.slice (if rc = b.1 then some ⟨l.b, off + l.sh, none⟩ else (some (Addr.mk l.b (off + l.sh) none)).map (·.add (b.1 * s))) 0 (rc - b.1), ?_, .slcE _ _⟩
          simp only [Instr.sliceAt, Sem.run_bind, hd, Result.andThen_ok, Instr.slice, k1, run_size h3, Sem.run_pure, e1, Nat.sub_self]
      | some v r hr =>
        simp only [Option.isNone_some, cond_false] at h6
        obtain ⟨h9, h10⟩ := gd_some.1 h6
        cases h10
        simp only [Option.isNone_some, Bool.false_eq_true, if_false] at k1
        simp only [Bool.and_eq_true] at h9
        have hb : b.1 < b.2.2 := Nat.le_of_ble_eq_true h9.1
        have hb2 : b.2.2 < BIG := Nat.le_of_ble_eq_true h9.2
        refine ⟨.slice (some ⟨l.b, off + b.1 * s + l.sh, none⟩) (b.2.1 - b.1) (b.2.2 - b.1), ?_, .slc _ _ l _ _ hl (by simp only [Nat.sub_eq]; omega)⟩
        simp only [Instr.sliceAt, Sem.run_bind, hd, Result.andThen_ok, Instr.slice, k1, run_size h3, Sem.run_pure]
        congr 2
        rw [if_neg (by omega)]
        simp only [Option.map_some, add_none]
        rw [show off + l.sh + b.1 * s = off + b.1 * s + l.sh by omega]
    | _ => simp at h2
  | ptr i off l hl =>
    cases d with
    | array k el =>
      simp only at h2
      obtain ⟨size, h3, h4⟩ := ob_some.1 h2
      obtain ⟨h7, h8⟩ := gd_some.1 h4
      obtain ⟨b, h5, h6⟩ := ob_some.1 h8
      cases h6
      have hk : k < BIG := Nat.le_of_ble_eq_true h7
      obtain ⟨k1, k2, k3, k4, k5⟩ := run_bounds (b := false) h5 (Nat.le_refl _) hlo hhi hmx w (P := P)
      have k6 : (if mx.isNone = true then k else b.2.2) = b.2.2 := by
        cases mx with
        | none => exact (k5 rfl).symm
        | some => rfl
      rw [k6] at k1
      refine ⟨.slice (some ⟨l.b, (bif Nat.beq b.2.2 b.1 then off else off + b.1 * size) + l.sh, none⟩) (b.2.1 - b.1) (b.2.2 - b.1), ?_, ?_⟩
      · simp only [Instr.sliceAt, Sem.run_bind, hd, Result.andThen_ok, Instr.sureAddr, k1, run_size h3, Sem.run_pure]
        congr 3
        cases e : Nat.beq b.2.2 b.1 with
        | true => rw [if_pos (Nat.eq_of_beq_eq_true e)]; rfl
        | false =>
          rw [if_neg (Nat.ne_of_beq_eq_false e)]
          simp only [add_none, cond_false]
          rw [show off + l.sh + b.1 * size = off + b.1 * size + l.sh by omega]
      · rw [brec]
        exact .slc _ _ l _ _ hl (by simp only [Nat.sub_eq]; omega)
    | _ => simp at h2
  | _ => cases d <;> simp at h2

theorem pureV_ok {o : Oper} {v : Value} (hT : RT D n tm a) (h : pureV (envH P H) tm o.op = some v) (w : World) : ∃ r, (execOp a.eval o).run P w = .ok (.value r) w ∧ RV D v r := by
  obtain ⟨dst, op, ty, pos, after, guard⟩ := o
  simp only at h
  cases op with
  | move x => exact ⟨_, rfl, evO_ok hT h⟩
  | assign x => exact ⟨_, rfl, evO_ok hT h⟩
  | pick c x y =>
    obtain ⟨b, h1, h2⟩ := ob_some.1 h
    have hb := evO_ok hT h1
    cases b with
    | bool b =>
      have e := hb.bool_inv
      cases b with
      | true => exact ⟨_, by simp [execOp, e, asBool], evO_ok hT h2⟩
      | false => exact ⟨_, by simp [execOp, e, asBool], evO_ok hT h2⟩
    | _ => simp at h2
  | build t parts =>
    obtain ⟨z, h1, h2⟩ := ob_some.1 h
    obtain ⟨ps, h3, h4⟩ := ob_some.1 h2
    obtain ⟨d, h5, h6⟩ := ob_some.1 h4
    obtain ⟨hz1, hz2⟩ := run_zero h1 w
    obtain ⟨hp1, hp2⟩ := evP_ok hT h3
    have hz : RL D z.cells.toList z.cells.toList := (pl_rv (D := D) 4 z hz2).cells
    have hm : (parts.map fun (x : Nat × Operand) => (x.1, a.eval x.2)).toList = parts.toList.map fun x => (x.1, a.eval x.2) := by simp
    cases d with
    | struct fs =>
      obtain ⟨pl, h7, h8⟩ := ob_some.1 h6
      obtain ⟨cs, h9, h10⟩ := ob_some.1 h8
      cases h10
      obtain ⟨c', h11, h12⟩ := fill_ok (D := D) (pr := fun i => (Array.mk pl)[i]?) (ps' := parts.toList.map fun x => (x.1, a.eval x.2)) (fun i x hx => by simpa using hx) h9 (by rw [List.map_map, hp1]; rfl) (by rw [List.map_map]; exact hp2) hz
      refine ⟨.agg ⟨c'⟩, ?_, RV.agg' h12⟩
      have hpl : (fs.mapM fun (f : Field) => (do pure (f.offset, ← sizeOf f.type) : Sem (Nat × Nat))).run P w = .ok ⟨pl⟩ w := by
        have := places_ok h7 w
        rw [Array.mapM_eq_mapM_toList]
        simp only [Sem.run_map, this, Result.andThen_ok]
      have : (Instr.build t (parts.map fun (x : Nat × Operand) => (x.1, a.eval x.2))).run P w = .ok (.agg ⟨c'⟩) w := by
        simp only [Instr.build, Sem.run_bind, hz1, Result.andThen_ok, run_under h5, hpl, hm]
        rw [show (fun i => (Array.mk pl)[i]?) = (fun i => (Array.mk pl)[i]?) from rfl] at h11
        simp only [Array.toArray_toList] at h11
        rw [h11]; rfl
      exact run_v this
    | array k e =>
      obtain ⟨size, h7, h8⟩ := ob_some.1 h6
      obtain ⟨cs, h9, h10⟩ := ob_some.1 h8
      cases h10
      obtain ⟨c', h11, h12⟩ := fill_ok (D := D) (pr := fun i => some (i * size, size)) (ps' := parts.toList.map fun x => (x.1, a.eval x.2)) (fun i x hx => hx) h9 (by rw [List.map_map, hp1]; rfl) (by rw [List.map_map]; exact hp2) hz
      refine ⟨.agg ⟨c'⟩, ?_, RV.agg' h12⟩
      have : (Instr.build t (parts.map fun (x : Nat × Operand) => (x.1, a.eval x.2))).run P w = .ok (.agg ⟨c'⟩) w := by
        simp only [Instr.build, Sem.run_bind, hz1, Result.andThen_ok, run_under h5, run_size h7, hm]
        simp only [Array.toArray_toList] at h11
        rw [h11]; rfl
      exact run_v this
    | _ => simp at h6
  | nilCheck x =>
    obtain ⟨b, h1, h2⟩ := ob_some.1 h
    have hb := evO_ok hT h1
    generalize he : a.eval x = r at hb
    cases hb with
    | ptr i off l hd =>
      simp only at h2; cases h2
      exact ⟨_, by simp only [execOp, he]; rfl, .ptr i off l hd⟩
    | func fn p q p' q' h3 h4 h5 h6 =>
      simp only at h2; cases h2
      exact ⟨_, by simp only [execOp, he]; rfl, .func _ p q p' q' h3 h4 h5 h6⟩
    | _ => simp at h2
  | binOp op xt x y yt =>
    obtain ⟨u, h1, h2⟩ := ob_some.1 h
    obtain ⟨v', h3, h4⟩ := ob_some.1 h2
    have hu := evO_ok hT h1
    have hv := evO_ok hT h3
    unfold binV at h4
    rw [brec] at h4
    cases hp : pl 4 u && pl 4 v' with
    | true =>
      rw [hp] at h4
      simp only [Bool.and_eq_true] at hp
      simp only [cond_true] at h4
      have e1 := pl2 hp.1 hu
      have e2 := pl2 hp.2 hv
      obtain ⟨r, h5, h6⟩ := ob_some.1 h4
      obtain ⟨h7, h8⟩ := gd_some.1 h6
      cases h8
      have hr := pureRun_run h5 w
      refine ⟨v, ?_, pl_rv 4 v h7⟩
      simp only [execOp, e1, e2]
      exact run_v hr
    | false =>
      rw [hp] at h4
      simp only [cond_false] at h4
      obtain ⟨d, h5, h6⟩ := ob_some.1 h4
      cases op with
      | eql =>
        obtain ⟨h7, h8⟩ := gd_some.1 h6
        cases h8
        obtain ⟨q1, q2⟩ := bin_nil (op := .eql) (x := x) (y := y) h5 h7 hu hv w
        refine ⟨.bool false, ?_, .bool _⟩
        refine run_v ?_
        simp only [Sem.run_bind, q2, Result.andThen_ok]
        exact run_eql h7 hu hv q1
      | neq =>
        obtain ⟨h7, h8⟩ := gd_some.1 h6
        cases h8
        obtain ⟨q1, q2⟩ := bin_nil (op := .neq) (x := x) (y := y) h5 h7 hu hv w
        refine ⟨.bool true, ?_, .bool _⟩
        refine run_v ?_
        simp only [Sem.run_bind, q2, Result.andThen_ok]
        exact run_neq h7 hu hv q1
      | _ => simp at h6
  | unOp op t x =>
    obtain ⟨u, h1, h2⟩ := ob_some.1 h
    obtain ⟨h3, h4⟩ := gd_some.1 h2
    have hu := evO_ok hT h1
    have e1 := pl2 h3 hu
    obtain ⟨r, h5, h6⟩ := ob_some.1 h4
    obtain ⟨h7, h8⟩ := gd_some.1 h6
    cases h8
    refine ⟨v, ?_, pl_rv 4 v h7⟩
    simp only [execOp, e1]
    exact run_v (pureRun_run h5 w)
  | convert s d x =>
    obtain ⟨u, h1, h2⟩ := ob_some.1 h
    obtain ⟨h3, h4⟩ := gd_some.1 h2
    have hu := evO_ok hT h1
    have e1 := pl2 h3 hu
    obtain ⟨r, h5, h6⟩ := ob_some.1 h4
    obtain ⟨h7, h8⟩ := gd_some.1 h6
    cases h8
    refine ⟨v, ?_, pl_rv 4 v h7⟩
    simp only [execOp, e1]
    exact run_v (pureRun_run h5 w)
  | makeInterface t x =>
    obtain ⟨d, h1, h2⟩ := ob_some.1 h
    cases d <;> first
      | (simp at h2; done)
      | (simp only at h2
         obtain ⟨u, h3, h4⟩ := ob_some.1 h2
         cases h4
         refine ⟨_, run_v (r := .iface t (a.eval x)) ?_, .iface _ _ _ (evO_ok hT h3)⟩
         simp only [Instr.makeInterface, Sem.run_bind, run_under h1, Result.andThen_ok, Sem.run_pure])
  | makeFunc fn p q =>
    cases fn with
    | func fn =>
    obtain ⟨l, h1, h2⟩ := ob_some.1 h
    obtain ⟨m, h3, h4⟩ := ob_some.1 h2
    cases h4
    obtain ⟨p⟩ := p
    obtain ⟨q⟩ := q
    refine ⟨.func (.func fn) ⟨p.map a.eval⟩ ⟨q.map a.eval⟩, ?_, RV.func' (evL_ok hT h1) (evL_ok hT h3)⟩
    simp only [execOp]
    refine run_v ?_
    simp [Instr.makeFunc]
    | _ => simp [pureV] at h
  | fieldAddr t x f =>
    obtain ⟨off, h1, h2⟩ := ob_some.1 h
    obtain ⟨u, h3, h4⟩ := ob_some.1 h2
    obtain ⟨p, h5, h6⟩ := ob_some.1 h4
    cases h6
    obtain ⟨fs, g, m, k1, k2, k3, k4, k5⟩ := fOff_ok h1
    obtain ⟨l, hl, e, -⟩ := adr_ok h5 (evO_ok hT h3)
    refine ⟨.pointer (some ⟨l.b, (p.2 + off) + l.sh, none⟩), ?_, .ptr _ _ l hl⟩
    simp only [execOp, e]
    refine run_v ?_
    rw [show p.2 + off + l.sh = p.2 + l.sh + off by omega]
    simp only [Instr.fieldAt, Sem.run_bind, run_under k1, Result.andThen_ok, k2, Instr.sureAddr, Sem.run_pure, fieldPlace, run_size k4, if_neg k5, add_none, k3]
  | field t x f =>
    obtain ⟨g, h1, h2⟩ := ob_some.1 h
    obtain ⟨u, h3, h4⟩ := ob_some.1 h2
    obtain ⟨fs, k1, k2⟩ := fld_ok h1
    cases u with
    | agg cs =>
      obtain ⟨l', e, hl⟩ := (evO_ok hT h3).agg_inv
      obtain ⟨r, k3, k4⟩ := run_part h4 hl w
      refine ⟨r, ?_, k4⟩
      simp only [execOp, e]
      refine run_v ?_
      simp only [Instr.field, Sem.run_bind, run_under k1, Result.andThen_ok, k2, asAgg, Sem.run_pure, k3]
    | _ => simp at h4
  | indexAddr t x i =>
    obtain ⟨iv, h1, h2⟩ := ob_some.1 h
    obtain ⟨j, h3, h4⟩ := ob_some.1 h2
    obtain ⟨u, h5, h6⟩ := ob_some.1 h4
    obtain ⟨d, h7, h8⟩ := ob_some.1 h6
    obtain ⟨k, e1⟩ := intV_ok h3 (evO_ok hT h1)
    have hu := evO_ok hT h5
    have hd := run_under h7 w
    generalize he : a.eval x = r at hu
    cases hu with
    | ptr b off l hl =>
      cases d with
      | array len el =>
        simp only at h8
        obtain ⟨h9, h10⟩ := gd_some.1 h8
        obtain ⟨m, h11, h12⟩ := ob_some.1 h10
        cases h12
        have hb := of_decide_eq_true h9
        refine ⟨.pointer (some ⟨l.b, (off + j.toNat * m) + l.sh, none⟩), ?_, .ptr _ _ l hl⟩
        rw [show off + j.toNat * m + l.sh = off + l.sh + j.toNat * m by omega]
        simp only [execOp, e1, he]
        refine run_v ?_
        simp only [Instr.indexAt, Sem.run_bind, asIntOf, Sem.run_pure, Result.andThen_ok, hd, Instr.sureAddr, if_pos hb, run_size h11, add_none]
      | _ => simp at h8
    | slc b off l len c hl hc =>
      cases d with
      | slice el =>
        simp only at h8
        obtain ⟨h9, h10⟩ := gd_some.1 h8
        obtain ⟨m, h11, h12⟩ := ob_some.1 h10
        cases h12
        have hb := of_decide_eq_true h9
        refine ⟨.pointer (some ⟨l.b, (off + j.toNat * m) + l.sh, none⟩), ?_, .ptr _ _ l hl⟩
        rw [show off + j.toNat * m + l.sh = off + l.sh + j.toNat * m by omega]
        simp only [execOp, e1, he]
        refine run_v ?_
        simp only [Instr.indexAt, Sem.run_bind, asIntOf, Sem.run_pure, Result.andThen_ok, hd, if_pos hb, run_size h11, add_none]
      | _ => simp at h8
    | slcU b off l len s mc rc hl p1 p0 p2 p4 p5 p3 =>
      cases d with
      | slice el =>
        simp only at h8
        obtain ⟨h9, h10⟩ := gd_some.1 h8
        obtain ⟨m, h11, h12⟩ := ob_some.1 h10
        cases h12
        have hb := of_decide_eq_true h9
        refine ⟨.pointer (some ⟨l.b, (off + j.toNat * m) + l.sh, none⟩), ?_, .ptr _ _ l hl⟩
        rw [show off + j.toNat * m + l.sh = off + l.sh + j.toNat * m by omega]
        simp only [execOp, e1, he]
        refine run_v ?_
        simp only [Instr.indexAt, Sem.run_bind, asIntOf, Sem.run_pure, Result.andThen_ok, hd, if_pos hb, run_size h11, add_none]
      | _ => simp at h8
    | _ => cases d <;> simp at h8
  | index t x i =>
    obtain ⟨iv, h1, h2⟩ := ob_some.1 h
    obtain ⟨j, h3, h4⟩ := ob_some.1 h2
    obtain ⟨u, h5, h6⟩ := ob_some.1 h4
    obtain ⟨d, h7, h8⟩ := ob_some.1 h6
    obtain ⟨k, e1⟩ := intV_ok h3 (evO_ok hT h1)
    have hu := evO_ok hT h5
    have hd := run_under h7 w
    generalize he : a.eval x = r at hu
    cases hu with
    | agg cs cs' k1 k2 =>
      cases d with
      | array len el =>
        simp only at h8
        obtain ⟨h9, h10⟩ := gd_some.1 h8
        obtain ⟨m, h11, h12⟩ := ob_some.1 h10
        have hb := of_decide_eq_true h9
        obtain ⟨r, q1, q2⟩ := run_part h12 (⟨k1, k2⟩ : RL D cs cs') w
        refine ⟨r, ?_, q2⟩
        simp only [execOp, e1, he]
        refine run_v ?_
        simp only [Instr.index, Sem.run_bind, asIntOf, Sem.run_pure, Result.andThen_ok, hd, if_pos hb, run_size h11]
        exact q1
      | _ => simp at h8
    | string s =>
      cases d with
      | string =>
        simp only at h8
        obtain ⟨h9, h10⟩ := gd_some.1 h8
        obtain ⟨b, h11, h12⟩ := ob_some.1 h10
        cases h12
        have hb := of_decide_eq_true h9
        refine ⟨.int .u8 b.toNat, ?_, .int _ _⟩
        simp only [execOp, e1, he]
        refine run_v ?_
        have : s[j.toNat]? = some b := (ba_get s _).trans h11
        simp only [Instr.index, Sem.run_bind, asIntOf, Sem.run_pure, Result.andThen_ok, hd, if_pos hb, this]
      | _ => simp at h8
    | _ => cases d <;> simp at h8
  | slice t x lo hi mx =>
    obtain ⟨u, h1, h2⟩ := ob_some.1 h
    obtain ⟨l, h3, h4⟩ := ob_some.1 h2
    obtain ⟨hh, h5, h6⟩ := ob_some.1 h4
    obtain ⟨m, h7, h8⟩ := ob_some.1 h6
    obtain ⟨r, k1, k2⟩ := run_slice h8 (evO_ok hT h1) (evM_ok hT h3) (evM_ok hT h5) (evM_ok hT h7) w
    exact ⟨r, run_v k1, k2⟩
  | extract t i =>
    obtain ⟨u, h1, h2⟩ := ob_some.1 h
    cases u with
    | tuple vs =>
      obtain ⟨l', e, hl⟩ := (evO_ok hT h1).tuple_inv
      obtain ⟨y, k1, k2⟩ := hl.get h2
      refine ⟨y, ?_, k2⟩
      simp only [execOp, e]
      refine run_v ?_
      have : (Array.mk l')[i]? = some y := by simpa using k1
      simp only [Instr.extract, this, Sem.run_pure]
    | _ => simp at h2
  | call c =>
    obtain ⟨callee, args, argTypes⟩ := c
    cases callee with
    | value f => simp [pureV] at h
    | invoke r m => simp [pureV] at h
    | builtin b =>
      obtain ⟨vs, h1, h2⟩ := ob_some.1 h
      have hvs := evL_ok hT h1
      obtain ⟨args⟩ := args
      simp only at hvs h1
      have hgo : ∀ {s : Sem Value} {r : Value}, (∀ cs, builtin b argTypes ty cs (args.map a.eval).toArray = (do pure (Next.value (← s)))) → s.run P w = .ok r w → (execOp a.eval ⟨dst, .call ⟨.builtin b, ⟨args⟩, argTypes⟩, ty, pos, after, guard⟩).run P w = .ok (.value r) w := by
        intro s r e1 e2
        simp only [execOp, resolve, Sem.run_bind, Sem.run_pure, Result.andThen_ok, invoke, List.map_toArray]
        rw [e1]
        exact run_v e2
      generalize hargs : (args.map a.eval) = rs at hvs hgo
      have hres : ∀ {s : Sem Value}, (∀ cs, builtin b argTypes ty cs rs.toArray = (do pure (Next.value (← s)))) → plR (pureRun P s) = some v → ∃ r, (execOp a.eval ⟨dst, .call ⟨.builtin b, ⟨args⟩, argTypes⟩, ty, pos, after, guard⟩).run P w = .ok (.value r) w ∧ RV D v r := by
        intro s e1 e2
        obtain ⟨r, h5, h6⟩ := ob_some.1 e2
        obtain ⟨h7, h8⟩ := gd_some.1 h6
        cases h8
        exact ⟨v, hgo e1 (pureRun_run h5 w), pl_rv 4 v h7⟩
      cases b with
      | len =>
        match vs, h2, hvs with
        | [x], h2, hvs =>
          simp only at h2
          obtain ⟨t, h3, h4⟩ := ob_some.1 h2
          obtain ⟨d, h5, h6⟩ := ob_some.1 h4
          obtain ⟨y, r, e, hx, hr⟩ := hvs.cons_inv
          rw [hr.nil_inv] at e
          subst e
          have hd := run_under h5 w
          have ht : argTypes[0]? = some t := by simpa using h3
          have fin : ∀ (n : Nat), (Builtin.len_ argTypes ty #[y]).run P w = .ok (goInt n) w → v = goInt n → ∃ r, (execOp a.eval ⟨dst, .call ⟨.builtin .len, ⟨args⟩, argTypes⟩, ty, pos, after, guard⟩).run P w = .ok (.value r) w ∧ RV D v r := by
            intro n h9 h10
            subst h10
            exact ⟨_, hgo (fun _ => rfl) h9, .int _ _⟩
          split at h6
          · cases h6
            have := hx.string_inv
            subst this
            refine fin _ ?_ rfl
            simp only [Builtin.len_, ht, Sem.run_bind, hd, Result.andThen_ok, Sem.run_pure, List.getElem?_toArray, List.getElem?_cons_zero]
          · cases h6
            refine fin _ ?_ rfl
            simp only [Builtin.len_, ht, Sem.run_bind, hd, Result.andThen_ok, Sem.run_pure, List.getElem?_toArray, List.getElem?_cons_zero]
          · cases h6
            cases hx <;>
            · refine fin _ ?_ rfl
              simp only [Builtin.len_, ht, Sem.run_bind, hd, Result.andThen_ok, Sem.run_pure, List.getElem?_toArray, List.getElem?_cons_zero]
          · cases h6
        | [], h2, _ => simp at h2
        | _ :: _ :: _, h2, _ => simp at h2
      | cap =>
        match vs, h2, hvs with
        | [.slice p q c], h2, hvs =>
          simp only at h2
          obtain ⟨t, h3, h4⟩ := ob_some.1 h2
          obtain ⟨d, h5, h6⟩ := ob_some.1 h4
          obtain ⟨y, r, e, hx, hr⟩ := hvs.cons_inv
          rw [hr.nil_inv] at e
          subst e
          have hd := run_under h5 w
          have ht : argTypes[0]? = some t := by simpa using h3
          cases d with
          | slice el =>
            simp only at h6
            obtain ⟨h7, h8⟩ := gd_some.1 h6
            cases h8
            have hc : c < BIG := Nat.le_of_ble_eq_true h7
            refine ⟨goInt c, hgo (s := Builtin.cap_ argTypes ty #[y]) (fun _ => rfl) ?_, .int _ _⟩
            cases hx with
            | slcU => exact absurd hc (Nat.not_lt_of_le (unk_ge _ _))
            | slcE => exact absurd hc (by decide)
            | _ => simp only [Builtin.cap_, ht, Sem.run_bind, hd, Result.andThen_ok, Sem.run_pure, List.getElem?_toArray, List.getElem?_cons_zero]
          | _ => simp at h6
        | [], h2, _ => simp at h2
        | [.bool _], h2, _ | [.int _ _], h2, _ | [.float _ _], h2, _ | [.complex _ _ _], h2, _ | [.string _], h2, _ | [.pointer _], h2, _ | [.map _], h2, _ | [.chan _], h2, _ | [.func _ _ _], h2, _ | [.nilFunc], h2, _ | [.iface _ _], h2, _ | [.nilIface], h2, _ | [.agg _], h2, _ | [.tuple _], h2, _ => simp at h2
        | _ :: _ :: _, h2, _ => simp at h2
      | min =>
        simp only at h2
        obtain ⟨h3, h4⟩ := gd_some.1 h2
        have e := pl_eqL 2 hvs h3
        subst e
        exact hres (fun _ => rfl) h4
      | max =>
        simp only at h2
        obtain ⟨h3, h4⟩ := gd_some.1 h2
        have e := pl_eqL 2 hvs h3
        subst e
        exact hres (fun _ => rfl) h4
      | _ => simp at h2
  | _ => simp [pureV] at h
end
end Go.Ex
