/-
  The evaluator's runs are the model's.
-/
import Derived.Test.YtombnejipaoinaaGreatExl
import Derived.RangeFuncLeaves
import Derived.OrdersIn
import Derived.Scope
namespace Go.Ex
open Go

/-- everything may be called; the round that the activation is in -/
def FF (r : Option Nat) : Fence := { Fence.wide with round := r }
theorem FF_none : FF none = Fence.wide := rfl
theorem FF_calls {r r' : Option Nat} {m : Nat} {P : Program} {f : FuncId} {args : Array Value} {w : World} {R : Ending → World → Prop} (h : CallsIn (FF r) m P f args w R) : CallsIn (FF r') m P f args w R := h

section
variable {P : Program} {H : Hooks}

/-- the numbers from lo to hi are free -/
def Free (D : Dm) (lo hi : Nat) : Prop := ∀ i, lo ≤ i → i < hi → D i = none
theorem Free.left {D : Dm} {a b c : Nat} (h : Free D a c) (hb : b ≤ c) : Free D a b := fun i h1 h2 => h i h1 (by omega)
theorem Free.next {D D1 : Dm} {S S1 : St} {w w1 : World} {c : Nat} (h : Free D S.n c) (f : Fr D S w D1 S1 w1) : Free D1 S1.n c := fun i h1 h2 => by
  rw [f.ext i (.inr h1)]
  exact h i (Nat.le_trans f.n h1) h2

def GL (P : Program) (D : Dm) : Prop := ∀ g, g < P.globals.size → ∃ l, D g = some l ∧ l.b = g ∧ l.sh = 0
theorem GL.mono {D D' : Dm} (hd : D.le D') (h : GL P D) : GL P D' := fun g hg => let ⟨l, h1, h2⟩ := h g hg; ⟨l, hd _ _ h1, h2⟩

/-- the marks among the deferred calls -/
inductive MK (D : Dm) : List Nat → List Deferred → Prop
  | nil : MK D [] []
  | cons (i : Nat) (l : Loc) (is : List Nat) (ds : List Deferred) : D i = some l → MK D is ds → MK D (i :: is) ({ target := .collected l.b, args := #[] } :: ds)
theorem MK.mono {D D' : Dm} (hd : D.le D') {is : List Nat} {ds : List Deferred} (h : MK D is ds) : MK D' is ds := by
  induction h with
  | nil => exact .nil
  | cons i l is ds h1 _ ih => exact .cons i l is ds (hd _ _ h1) ih

/-- the round -/
inductive RR (D : Dm) : Option Nat → Option Nat → Prop
  | none : RR D none none
  | some (i : Nat) (l : Loc) : D i = some l → RR D (some i) (some l.b)
theorem RR.mono {D D' : Dm} (hd : D.le D') {r r' : Option Nat} (h : RR D r r') : RR D' r r' := by
  cases h with
  | none => exact .none
  | some i l h => exact .some i l (hd _ _ h)

/-- an activation -/
structure RA (D : Dm) (sz : Nat) (tm : Tm) (a : Act) : Prop where
  t : RT D sz tm a
  m : MK D tm.mks a.defers
theorem RA.mono {D D' : Dm} (hd : D.le D') {sz : Nat} {tm : Tm} {a : Act} (h : RA D sz tm a) : RA D' sz tm a := ⟨RTm.mono hd h.t, h.m.mono hd⟩

def exitOf : X → Exit
  | .normal => .normal
  | .exit id => .exit id
  | .ret => .ret

def LoopWp (F : Fence) (n : Nat) (P : Program) (c : Code) (Q : Exit → Act → World → Prop) (a : Act) (w : World) : Prop :=
  ∀ (b : Frame) (k : List Item) (cs : List Frame), b.roundOf = F.round → F.fn b.fn → F.room (cs.length + 1 + n) →
    ∃ e a' w', Q e a' w' ∧ ArrivesIn (Machine.fenced P F) P (lone (b.atR a (.code c :: .inLoop c :: k)) cs w) b k cs e a' w'
theorem LoopWp.wpIn {F : Fence} {n : Nat} {c : Code} {Q : Exit → Act → World → Prop} {a : Act} {w : World} (h : LoopWp F n P c Q a w) : (Code.loop c).wpIn F n P Q a w :=
  fun b k cs hro hb hr => let ⟨e, a', w', q, r⟩ := h b k cs hro hb hr; ⟨e, a', w', q, .of_steps (.one (fenced_calm hb hr rfl) stepR_loop) r⟩
theorem LoopWp.step {F : Fence} {n : Nat} {c : Code} {Q : Exit → Act → World → Prop} {a : Act} {w : World} (h : c.wpIn F n P (Exit.then (LoopWp F n P c Q) Q) a w) : LoopWp F n P c Q a w := by
  intro b k cs hro hb hr
  obtain ⟨e, a₁, w₁, hq, harr⟩ := h b (.inLoop c :: k) cs hro hb hr
  cases e with
  | normal =>
    obtain ⟨e₂, a₂, w₂, hq₂, harr₂⟩ := hq b k cs hro hb hr
    exact ⟨e₂, a₂, w₂, hq₂, .of_steps (StepsIn.trans harr (.one (fenced_calm hb hr rfl) stepR_inLoop)) harr₂⟩
  | exit id => exact ⟨_, a₁, w₁, hq, .pass (x := .inLoop c) rfl (fun _ _ => .inl (by simp)) harr⟩
  | goto l => exact ⟨_, a₁, w₁, hq, .pass (x := .inLoop c) rfl (fun _ _ => .inl (by simp)) harr⟩
  | ret => exact ⟨_, a₁, w₁, hq, .pass (x := .inLoop c) rfl (fun _ _ => .inl (by simp)) harr⟩
  | panic ch => exact ⟨_, a₁, w₁, hq, .pass (x := .inLoop c) rfl (fun _ _ => .inl (by simp)) harr⟩
  | outgrown => exact ⟨_, a₁, w₁, hq, .pass (x := .inLoop c) rfl (fun _ _ => .inl (by simp)) harr⟩

/-- a function with a body -/
def HasBody (P : Program) (f : FuncId) : Prop := ∃ F c, P.funcs[f]? = some F ∧ F.body = some c ∧ (F.name == "runtime.NumGoroutine") = false
/-- a function called -/
def CallOK (P : Program) (H : Hooks) (k : Nat) : Prop := ∀ f args S v S', callX (envH P H) k f args S = some (v, S') → HasBody P f → ∀ D w rargs, RL D args rargs → RS D S w → Free D S.n S'.n → GL P D → ∀ m,
  CallsIn (FF none) m P f ⟨rargs⟩ w fun e w' => ∃ D' r, e = .returned r ∧ RV D' v r ∧ RS D' S' w' ∧ Fr D S w D' S' w'
/-- the known answers are right -/
def HooksOK (P : Program) (H : Hooks) : Prop := ∀ f h, H f = some h → ∀ args S v S', h args S = some (v, S') → HasBody P f → ∀ D w rargs, RL D args rargs → RS D S w → Free D S.n S'.n → GL P D → ∀ m,
  CallsIn (FF none) m P f ⟨rargs⟩ w fun e w' => ∃ D' r, e = .returned r ∧ RV D' v r ∧ RS D' S' w' ∧ Fr D S w D' S' w'
/-- a statement -/
def CodeOK (P : Program) (H : Hooks) (k : Nat) : Prop := ∀ rnd sz c tm S x tm' S', codeX (envH P H) k rnd sz c tm S = some (x, tm', S') → ∀ D a w rr, RR D rnd rr → RA D sz tm a → tm.ng = P.globals.size → GL P D → RS D S w → Free D S.n S'.n → ∀ m (Q : Exit → Act → World → Prop),
  (∀ D' a' w', RA D' sz tm' a' → tm'.ng = P.globals.size → RS D' S' w' → Fr D S w D' S' w' → Q (exitOf x) a' w') →
  c.wpIn (FF rr) m P Q a w ∧ (∀ b, c = .loop b → LoopWp (FF rr) m P b Q a w)
/-- an operation -/
def OpOK (P : Program) (H : Hooks) (k : Nat) : Prop := ∀ o tm S v S', opX (envH P H) k o tm S = some (v, S') → ∀ sz D a w rr, RT D sz tm a → GL P D → RS D S w → Free D S.n S'.n → ∀ m (K : Act → World → Prop) (Q : Exit → Act → World → Prop),
  (∀ D' r w', RV D' v r → RS D' S' w' → Fr D S w D' S' w' → K (a.put o.dst r) w') → o.wpIn (FF rr) m P a w K Q
/-- a round -/
def RoundOK (P : Program) (H : Hooks) (k : Nat) : Prop := ∀ i args S v S', roundX (envH P H) k i args S = some (v, S') → ∀ D w rargs l, D i = some l → RL D args rargs → RS D S w → Free D S.n S'.n → GL P D → ∀ m rr,
  ∃ f tmps assign body, (Instr.yield l.b ⟨rargs⟩).run P w = .ok (.round l.b f tmps assign body) w ∧ RoundIn (FF rr) m P l.b f tmps assign body w fun e w' => ∃ D' r, e = .returned r ∧ RV D' v r ∧ RS D' S' w' ∧ Fr D S w D' S' w'

def tset (ts : Array Value) (v : Value) : Option Tmp → Array Value
  | some d => ts.setIfInBounds d v
  | none => ts
theorem put_tmps (a : Act) (d : Option Tmp) (v : Value) : (a.put d v).tmps = tset a.tmps v d := by cases d <;> rfl
theorem put_defers (a : Act) (d : Option Tmp) (v : Value) : (a.put d v).defers = a.defers := by cases d <;> rfl

theorem putT_ok {D : Dm} {sz : Nat} {tm tm' : Tm} {d : Option Tmp} {v r : Value} {ts : Array Value} (h : putT sz tm d v = some tm') (ht : RTm D sz tm ts) (hv : RV D v r) : RTm D sz tm' (tset ts r d) ∧ tm'.ng = tm.ng ∧ tm'.mks = tm.mks := by
  cases d with
  | none => cases h; exact ⟨ht, rfl, rfl⟩
  | some d =>
    obtain ⟨h1, h2⟩ := gd_some.1 h
    cases h2
    have hd : d < sz := Nat.le_of_ble_eq_true h1
    refine ⟨⟨by simp [tset, ht.sz], fun t u hu => ?_, ht.gl⟩, rfl, rfl⟩
    have hg : (tm.set (some v) d).get t = if t = d then some v else tm.get t := Tr.get_set _ _ _ _
    rw [hg] at hu
    by_cases c : t = d
    · subst c
      rw [if_pos rfl] at hu; cases hu
      exact ⟨r, by simp [tset, ht.sz, hd], hv⟩
    · rw [if_neg c] at hu
      obtain ⟨y, h1, h2⟩ := ht.get t u hu
      exact ⟨y, by unfold tset; rw [Array.getElem?_setIfInBounds_ne (Ne.symm c)]; exact h1, h2⟩
theorem putA_ok {D : Dm} {sz : Nat} {tm tm' : Tm} {d : Option Tmp} {v r : Value} {a : Act} (h : putT sz tm d v = some tm') (ht : RA D sz tm a) (hv : RV D v r) : RA D sz tm' (a.put d r) ∧ tm'.ng = tm.ng := by
  obtain ⟨h1, h2, h3⟩ := putT_ok h ht.t hv
  refine ⟨⟨?_, ?_⟩, h2⟩
  · show RTm D sz tm' (a.put d r).tmps
    rw [put_tmps]; exact h1
  · rw [put_defers, h3]; exact ht.m
theorem RV.tuple_ex {D : Dm} {cs : Array Value} {r : Value} (h : RV D (.tuple cs) r) : ∃ rs, r = .tuple rs := by
  cases h; exact ⟨_, rfl⟩
theorem wantV_ok {D : Dm} {sz : Nat} {tm : Tm} {ops : Array Oper} {o : Oper} {b : Bool} {a : Act} (h : wantV ops tm o = some b) (ht : RT D sz tm a) : Region.wanted o (yielded ops a.tmps) = b := by
  unfold wantV at h
  unfold Region.wanted
  cases hg : o.guard with
  | none => rw [hg] at h; cases h; rfl
  | some p =>
    obtain ⟨j, wnt⟩ := p
    rw [hg] at h
    simp only at h
    obtain ⟨q, h1, h2⟩ := ob_some.1 h
    obtain ⟨d, h3, h4⟩ := ob_some.1 h2
    obtain ⟨v, h5, h6⟩ := ob_some.1 h4
    obtain ⟨r, h7, h8⟩ := ht.get d v h5
    cases v with
    | bool c =>
      have e := h8.bool_inv
      subst e
      have : yielded ops a.tmps j = some c := by
        unfold yielded
        rw [show ops[j]? = some q by simpa using h1]
        simp [h3, h7]
      simp only [Option.some.injEq] at h6
      simp only [this]
      rw [← h6]
      simp
    | tuple cs =>
      obtain ⟨rs, e⟩ := h8.tuple_ex
      subst e
      have : yielded ops a.tmps j = none := by
        unfold yielded
        rw [show ops[j]? = some q by simpa using h1]
        simp [h3, h7]
      simp only [Option.some.injEq] at h6
      simp only [this]
      rw [← h6]
      simp
    | _ => simp at h6

theorem callX_kind {k f : Nat} {args : List Value} {S S' : St} {v : Value} (h : callX (envH P H) k f args S = some (v, S')) : HasBody P f ∨ (S' = S ∧ args.all (pl 4) = true ∧ pl 4 v = true ∧ ∀ w, (callFunc f ⟨args⟩).run P w = .ok (.value v) w) := by
  cases k with
  | zero => simp [callX] at h
  | succ k =>
    simp only [callX] at h
    obtain ⟨F, h1, h2⟩ := ob_some.1 h
    rw [env_F] at h1
    cases hb : F.body with
    | none =>
      rw [hb] at h2
      simp only at h2
      obtain ⟨h3, h4⟩ := gd_some.1 h2
      obtain ⟨e, h5, h6⟩ := ob_some.1 h4
      obtain ⟨u, h7, h8⟩ := ob_some.1 h6
      simp only [Option.some.injEq, Prod.mk.injEq] at h8
      obtain ⟨rfl, rfl⟩ := h8
      obtain ⟨x, h9, h10⟩ := ob_some.1 h7
      obtain ⟨h11, h12⟩ := gd_some.1 h10
      cases h12
      simp only [Bool.and_eq_true, Bool.not_eq_true'] at h3
      obtain ⟨⟨g1, g2⟩, g3⟩ := h3
      refine .inr ⟨rfl, g3, h11, fun w => ?_⟩
      have hr : (e ⟨args⟩).run P w = .ok u w := pureRun_run (P := P) h9 w
      have g4 : ¬ F.name = "runtime.NumGoroutine" := by simpa using g1
      have hfn : Extern.findNext F = none := by simpa using g2
      simp [callFunc, h1, g4, hb, hfn, h5, hr]
    | some c =>
      rw [hb] at h2
      simp only at h2
      obtain ⟨h3, -⟩ := gd_some.1 h2
      exact .inl ⟨F, c, h1, hb, by simpa using h3⟩
theorem run_callFunc {f : FuncId} {F : Func} {c : Code} {args : Array Value} {w : World} (h1 : P.funcs[f]? = some F) (h2 : F.body = some c) (h3 : (F.name == "runtime.NumGoroutine") = false) : (callFunc f args).run P w = .ok (.enter f args) w := by
  simp [callFunc, h1, h2]
  intro h
  simp [h] at h3

theorem opX_ok {k : Nat} (hc : CallOK P H k) (hr : RoundOK P H k) : OpOK P H (k + 1) := by
  intro o tm S v S' h sz D a w rr hT hG hS hF m K Q hK
  simp only [opX] at h
  rw [brec, brec] at h
  refine ⟨fun _ _ => trivial, ?_⟩
  cases h1 : isPure (envH P H) o.op with
  | true =>
    rw [h1] at h
    simp only [cond_true] at h
    obtain ⟨u, h2, h3⟩ := ob_some.1 h
    simp only [Option.some.injEq, Prod.mk.injEq] at h3
    obtain ⟨rfl, rfl⟩ := h3
    obtain ⟨r, q1, q2⟩ := pureV_ok hT h2 w
    have hsem : o.semAt (FF rr).round a.eval = execOp a.eval o := Oper.semAt_eq _ _ _ fun c e => by rw [e] at h1; simp [isPure] at h1
    rw [hsem, q1]
    exact hK D r w q2 hS (Fr.refl _ _ _)
  | false =>
    rw [h1] at h
    simp only [cond_false] at h
    cases h2 : isCall o.op with
    | false =>
      rw [h2] at h
      simp only [cond_false] at h
      obtain ⟨D', nx, r, w', q1, q2, q3, q4, q5⟩ := heapV_ok hT hS h hF
      have hsem : o.semAt (FF rr).round a.eval = execOp a.eval o := Oper.semAt_eq _ _ _ fun c e => by rw [e] at h; simp [heapV] at h
      rw [hsem, q1]
      cases q2 with
      | value r => exact hK D' r w' q3 q4 q5
      | skip => exact hK D' undef w' q3 q4 q5
    | true =>
      rw [h2] at h
      simp only [cond_true] at h
      obtain ⟨ct, h3, h4⟩ := ob_some.1 h
      obtain ⟨dst, op, ty, pos, after, guard⟩ := o
      simp only at h3 hK ⊢
      cases op with
      | call c =>
        obtain ⟨callee, args, at_⟩ := c
        cases callee with
        | value f =>
          obtain ⟨g, h5, h6⟩ := ob_some.1 h3
          obtain ⟨vs, h7, h8⟩ := ob_some.1 h6
          have hg := evO_ok hT h5
          have hvs := evL_ok hT h7
          have hsem : Oper.semAt (FF rr).round a.eval ⟨dst, .call ⟨.value f, args, at_⟩, ty, pos, after, guard⟩ = execOp a.eval ⟨dst, .call ⟨.value f, args, at_⟩, ty, pos, after, guard⟩ := Oper.semAt_eq _ _ _ fun c e => by cases e
          rw [hsem]
          obtain ⟨args⟩ := args
          simp only at hvs
          generalize hev : a.eval f = fr at hg
          cases hg with
          | func fn pa pb pa' pb' k1 k2 k3 k4 =>
            simp only [Option.some.injEq] at h8
            subst h8
            simp only at h4
            have hargs : RL D (pa ++ (vs ++ pb)) (pa' ++ (args.map a.eval ++ pb')) := (RL.append ⟨k1, k3⟩ (hvs.append ⟨k2, k4⟩))
            rcases callX_kind h4 with hfn | ⟨e1, ha, hp, hrn⟩
            · have hcall := hc _ _ _ _ _ h4 hfn D w _ hargs hS hF hG (m - 1)
              have hrun : (execOp a.eval ⟨dst, .call ⟨.value f, ⟨args⟩, at_⟩, ty, pos, after, guard⟩).run P w = .ok (.enter fn ⟨pa' ++ (args.map a.eval ++ pb')⟩) w := by
                obtain ⟨F, c, f1, f2, f3⟩ := hfn
                simp only [execOp, resolve, Sem.run_bind, Sem.run_pure, Result.andThen_ok, hev, Deferred.ofValue, invoke]
                rw [run_callFunc f1 f2 f3]
                simp
              rw [hrun]
              refine ⟨fun h => (by cases h), ?_⟩
              refine ⟨trivial, fun cs hro => ?_⟩
              obtain ⟨e, w', fr, ⟨D', r, e1, q2, q3, q4⟩, s1, s2, s3⟩ := hcall.2 cs hro
              subst e1
              exact ⟨.returned r, w', fr, hK D' r w' q2 q3 q4, s1, s2, s3⟩
            · subst e1
              have he := pl_eqL 4 hargs ha
              have hrun : (execOp a.eval ⟨dst, .call ⟨.value f, ⟨args⟩, at_⟩, ty, pos, after, guard⟩).run P w = .ok (.value v) w := by
                simp only [execOp, resolve, Sem.run_bind, Sem.run_pure, Result.andThen_ok, hev, Deferred.ofValue, invoke]
                have e2 := hrn w
                rw [← he] at e2
                simpa using e2
              rw [hrun]
              exact hK D v w (pl_rv 4 v hp) hS (Fr.refl _ _ _)
          | yld i l hl =>
            simp only [Option.some.injEq] at h8
            subst h8
            simp only at h4
            obtain ⟨f', tmps, assign, body, q1, q2⟩ := hr _ _ _ _ _ h4 D w _ l hl hvs hS hF hG (m - 1) rr
            have hrun : (execOp a.eval ⟨dst, .call ⟨.value f, ⟨args⟩, at_⟩, ty, pos, after, guard⟩).run P w = .ok (.round l.b f' tmps assign body) w := by
              simp only [execOp, resolve, Sem.run_bind, Sem.run_pure, Result.andThen_ok, hev, Deferred.ofValue, invoke]
              rw [show (#[] : Array Value) ++ Array.map a.eval ⟨args⟩ = ⟨args.map a.eval⟩ by simp]
              exact q1
            rw [hrun]
            refine ⟨fun h => (by cases h), ?_⟩
            refine q2.mono fun e w' ⟨D', r, e1, k2, k3, k4⟩ => ?_
            subst e1
            exact hK D' r w' k2 k3 k4
          | _ => simp at h8
        | _ => simp [isCall] at h2
      | _ => simp [isCall] at h2

theorem undef_rv (D : Dm) : RV D undef undef := RV.tuple' RL.nil

theorem seqAll_ok {k : Nat} (ho : OpOK P H k) {ops : Array Oper} {sz : Nat} {rr : Option Nat} {m : Nat} : ∀ (l : List Oper) (i : Nat) (tm : Tm) (S : St) (tm' : Tm) (S' : St), ops.toList.drop i = l → seqAll (envH P H) sz (opX (envH P H) k) ops l tm S = some (tm', S') → ∀ D a w, RA D sz tm a → tm.ng = P.globals.size → GL P D → RS D S w → Free D S.n S'.n → ∀ (Q : Exit → Act → World → Prop),
    (∀ D' a' w', RA D' sz tm' a' → tm'.ng = P.globals.size → RS D' S' w' → Fr D S w D' S' w' → Q .normal a' w') → wpOpsIn (FF rr) m P ops Q (List.range' i l.length) a w
  | [], i, tm, S, tm', S', hd, h, D, a, w, hA, hN, hG, hS, hF, Q, hQ => by
    simp only [seqAll, Option.some.injEq, Prod.mk.injEq] at h
    obtain ⟨rfl, rfl⟩ := h
    exact hQ D a w hA hN hS (Fr.refl _ _ _)
  | o :: r, i, tm, S, tm', S', hd, h, D, a, w, hA, hN, hG, hS, hF, Q, hQ => by
    have hio : ops[i]? = some o := by
      have : (ops.toList.drop i)[0]? = some o := by rw [hd]; rfl
      rw [List.getElem?_drop] at this
      simpa using this
    have hdr : ops.toList.drop (i + 1) = r := by
      rw [← List.drop_drop, hd]; rfl
    simp only [seqAll] at h
    obtain ⟨b, h1, h2⟩ := ob_some.1 h
    have hw := wantV_ok h1 hA.t
    rw [brec] at h2
    simp only [List.length_cons, List.range'_succ, wpOpsIn, hio, hw]
    cases b with
    | false =>
      simp only [cond_false] at h2
      obtain ⟨tm1, h3, h4⟩ := ob_some.1 h2
      obtain ⟨hA1, hN1⟩ := putA_ok (r := undef) h3 hA (undef_rv D)
      simp only [Bool.false_eq_true, if_false]
      exact ⟨fun _ _ => trivial, seqAll_ok ho r (i + 1) tm1 S tm' S' hdr h4 D _ w hA1 (hN1.trans hN) hG hS hF Q hQ⟩
    | true =>
      simp only [cond_true] at h2
      obtain ⟨⟨v, S1⟩, h3, h4⟩ := ob_some.1 h2
      obtain ⟨tm1, h5, h6⟩ := ob_some.1 h4
      obtain ⟨⟨tm2, S2⟩, h7, h8⟩ := ob_some.1 h6
      obtain ⟨h9, h10⟩ := gd_some.1 h8
      simp only [Option.some.injEq, Prod.mk.injEq] at h10
      obtain ⟨rfl, rfl⟩ := h10
      have hle : S1.n ≤ S2.n := Nat.le_of_ble_eq_true h9
      simp only [if_true]
      refine ho _ _ _ _ _ h3 sz D a w rr hA.t hG hS (hF.left hle) m _ Q fun D1 v1 w1 q1 q2 q3 => ?_
      obtain ⟨hA1, hN1⟩ := putA_ok (r := v1) h5 (hA.mono q3.le) q1
      exact seqAll_ok ho r (i + 1) tm1 S1 tm2 S2 hdr h7 D1 _ w1 hA1 (hN1.trans hN) (hG.mono q3.le) q2 (hF.next q3) Q fun D' a' w' k1 k2 k3 k4 => hQ D' a' w' k1 k2 k3 (q3.trans k4)

def resF (ts : Array Value) (r : ResultVar) : Sem Value := match r with
  | .tmp t => pure (ts.getD t undef)
  | .cell a t => do loadVar t (← asAddr (ts.getD a undef))
theorem results_ok {D : Dm} {sz : Nat} {tm : Tm} {S : St} {w : World} {ts : Array Value} (ht : RTm D sz tm ts) (hS : RS D S w) : ∀ {rs : List ResultVar} {l : List Value}, resV (envH P H) tm S rs = some l → ∃ l', (rs.mapM (resF ts)).run P w = .ok l' w ∧ RL D l l'
  | [], l, h => by cases h; exact ⟨[], rfl, .nil⟩
  | .tmp t :: r, l, h => by
    simp only [resV] at h
    obtain ⟨v, h1, h2⟩ := ob_some.1 h
    obtain ⟨l1, h3, h4⟩ := ob_some.1 h2
    cases h4
    obtain ⟨l', q1, q2⟩ := results_ok ht hS h3
    obtain ⟨x, x1, x2⟩ := ht.get t v h1
    have hx1 : ts.getD t undef = x := by simp [x1]
    exact ⟨x :: l', by have hr : (resF ts (.tmp t)).run P w = .ok x w := (by simp only [resF, hx1, Sem.run_pure]); simp only [List.mapM_cons, Sem.run_bind, hr, Sem.run_pure, Result.andThen_ok, q1], .cons x2 q2⟩
  | .cell c t :: r, l, h => by
    simp only [resV] at h
    obtain ⟨p, h1, h2⟩ := ob_some.1 h
    obtain ⟨s, h3, h4⟩ := ob_some.1 h2
    obtain ⟨v, h5, h6⟩ := ob_some.1 h4
    obtain ⟨l1, h7, h8⟩ := ob_some.1 h6
    cases h8
    obtain ⟨l', q1, q2⟩ := results_ok ht hS h7
    obtain ⟨x, x1, x2⟩ := ht.get c p h1
    obtain ⟨u, u1, u2⟩ := ldV_ok hS h3 h5 x2
    refine ⟨u :: l', ?_, .cons u2 q2⟩
    have hx : ∃ ad, x = .pointer (some ad) := by
      unfold ldV at h5
      obtain ⟨q, q1, -⟩ := ob_some.1 h5
      obtain ⟨lc, -, e, -⟩ := adr_ok q1 x2
      exact ⟨_, e⟩
    obtain ⟨ad, rfl⟩ := hx
    have hl : (loadVar t ad).run P w = .ok u w := by simpa [Instr.loadAt, Instr.sureAddr] using u1
    have hx1 : ts.getD c undef = .pointer (some ad) := by simp [x1]
    have ha : (asAddr (.pointer (some ad))).run P w = .ok ad w := rfl
    have hr : (resF ts (.cell c t)).run P w = .ok u w := by simp only [resF, Sem.run_bind, hx1, ha, Result.andThen_ok, hl]
    simp only [List.mapM_cons, Sem.run_bind, hr, Sem.run_pure, Result.andThen_ok, q1]

theorem shutAll_ok {D : Dm} {n : Nat} {fn : Func} {ts : Array Value} {R : Ending → World → Prop} : ∀ {is : List Nat} {ds : List Deferred} {S S' : St} {w : World}, shutAll is S = some S' → MK D is ds → RS D S w → (∀ w', RS D S' w' → Fr D S w D S' w' → LeavesInM (FF none) n P fn ts R [] .returning w') → LeavesInM (FF none) n P fn ts R ds .returning w
  | [], ds, S, S', w, h, hm, hS, hK => by
    cases hm
    cases h
    exact hK w hS (Fr.refl _ _ _)
  | i :: is, ds, S, S', w, h, hm, hS, hK => by
    cases hm with
    | cons _ l _ ds hl hm =>
    simp only [shutAll] at h
    obtain ⟨o, h1, h2⟩ := ob_some.1 h
    cases o with
    | dfr b =>
      cases b with
      | false =>
        simp only at h2
        obtain ⟨l', ob, g1, g2, g3⟩ := hS.get h1
        rw [hl] at g1; cases g1
        cases g3 with
        | dfrN hsh =>
        obtain ⟨q1, q2⟩ := hS.put h1 hl (wr_setObj g2 (.deferred none)) (.dfrS hsh)
        refine ⟨(by simp), .inl ⟨l.b, _, rfl, ?_, shutAll_ok h2 hm q1 fun w' k1 k2 => hK w' k1 (q2.trans k2)⟩⟩
        have hgo := run_getObj (P := P) g2 (fun _ _ _ h => by cases h)
        have hset := run_setObj (P := P) (o' := .deferred none) g2 (fun _ _ _ h => by cases h)
        simp [Instr.takeDeferred, hgo, hset]
      | true => simp at h2
    | _ => simp at h2

theorem oneV_ok {D : Dm} {l l' : List Value} (h : RL D l l') : RV D (oneV l) (if h : (Array.mk l').size = 1 then (Array.mk l')[0] else .tuple ⟨l'⟩) := by
  match l, l', h with
  | [], [], h => exact RV.tuple' h
  | [x], [y], h => exact h.2 0 x y rfl rfl
  | x :: x2 :: r, y :: y2 :: r', h => 
    have : ¬ (Array.mk (y :: y2 :: r')).size = 1 := by simp
    rw [dif_neg this]
    exact RV.tuple' h
  | [], y :: r, h => have := h.1; simp at this
  | x :: r, [], h => have := h.1; simp at this
  | [x], y :: y2 :: r, h => have := h.1; simp at this
  | x :: x2 :: r, [y], h => have := h.1; simp at this

theorem callX_ok (hH : HooksOK P H) {k : Nat} (hc : CodeOK P H k) : CallOK P H (k + 1) := by
  intro f args S v S' h hfn D w rargs hargs hS hF hG m
  simp only [callX] at h
  obtain ⟨F, h1, h2⟩ := ob_some.1 h
  rw [env_F] at h1
  cases hb : F.body with
  | none =>
    obtain ⟨F', c', g1, g2, -⟩ := hfn
    rw [h1] at g1; cases g1
    rw [hb] at g2; cases g2
  | some c =>
    rw [hb] at h2
    simp only at h2
    obtain ⟨h3, h4⟩ := gd_some.1 h2
    rw [show (envH P H).H f = H f from rfl] at h4
    cases hh : H f with
    | some h0 => rw [hh] at h4; exact hH f h0 hh args S v S' h4 hfn D w rargs hargs hS hF hG m
    | none =>
    rw [hh] at h4
    simp only at h4
    obtain ⟨⟨x, tm', S1⟩, h5, h6⟩ := ob_some.1 h4
    have hx : x = .normal ∨ x = .ret := by
      cases x with
      | normal => exact .inl rfl
      | ret => exact .inr rfl
      | exit id => simp at h6
    have h6' : (ob (shutAll tm'.mks S1) fun S => gd (Nat.ble S1.n S.n) (ob (resV (envH P H) tm' S F.results.toList) fun l => some (oneV l, S))) = some (v, S') := by
      rcases hx with rfl | rfl <;> exact h6
    obtain ⟨S2, h7, h8⟩ := ob_some.1 h6'
    obtain ⟨h9, h10⟩ := gd_some.1 h8
    obtain ⟨l, h11, h12⟩ := ob_some.1 h10
    simp only [Option.some.injEq, Prod.mk.injEq] at h12
    obtain ⟨rfl, rfl⟩ := h12
    have hle : S1.n ≤ S2.n := Nat.le_of_ble_eq_true h9
    refine callsIn_of_wp_marks h1 hb trivial ?_
    have hA : RA D (Nat.add args.length (Nat.sub F.ntmps args.length)) ⟨Tr.ofList args 0 .nil, (envH P H).ng, []⟩ { tmps := (⟨rargs⟩ : Array Value) ++ Array.replicate (F.ntmps - (Array.mk rargs).size) undef, defers := [] } := by
      refine ⟨⟨?_, fun t u hu => ?_, fun g hg => hG g hg⟩, .nil⟩
      · simp [hargs.1]
      · have hu' : (Tr.ofList args 0 .nil).get t = some u := hu
        rw [Tr.get_list] at hu'
        obtain ⟨y, y1, y2⟩ := hargs.get hu'
        refine ⟨y, ?_, y2⟩
        have hlt : t < rargs.length := (List.getElem?_eq_some_iff.1 y1).1
        rw [Array.getElem?_append_left (by simpa using hlt)]
        simpa using y1
    refine (hc _ _ _ _ _ _ _ _ h5 D _ w none .none hA rfl hG hS (hF.left hle) m _ ?_).1
    intro D1 a1 w1 hA1 hN1 hS1 hFr1
    have hleaves : LeavesInM (FF none) m P F a1.tmps (fun e w' => ∃ D' r, e = .returned r ∧ RV D' (oneV l) r ∧ RS D' S2 w' ∧ Fr D S w D' S2 w') a1.defers .returning w1 := by
      refine shutAll_ok h7 hA1.m hS1 fun w' q1 q2 => ?_
      obtain ⟨l', r1, r2⟩ := results_ok hA1.t q1 h11
      refine ⟨if h : (Array.mk l').size = 1 then (Array.mk l')[0] else .tuple ⟨l'⟩, ?_, D1, _, rfl, oneV_ok r2, q1, hFr1.trans q2⟩
      have hres : results F a1.tmps = (do let vs ← F.results.mapM (resF a1.tmps); pure (if h : vs.size = 1 then vs[0] else .tuple vs)) := rfl
      rw [hres, Sem.run_bind, Array.mapM_eq_mapM_toList, Sem.run_map, r1]
      rfl
    rcases hx with rfl | rfl <;> exact hleaves

/-- a region that draws its order -/
def DrawOK (P : Program) (H : Hooks) (k : Nat) : Prop := ∀ id ops sz tm S (DD : DS), regB ops = true → drawAll (envH P H) sz (opX (envH P H) k) ops 0 ops.toList ⟨tm, S, S.h, [], [], []⟩ = some DD → ∀ D a w rr, RA D sz tm a → tm.ng = P.globals.size → GL P D → RS D S w → Free D S.n DD.C.n → ∀ m (Q : Exit → Act → World → Prop),
    (∀ D' a' w', RA D' sz DD.tm a' → DD.tm.ng = P.globals.size → RS D' DD.C w' → Fr D S w D' DD.C w' → Q .normal a' w') → (Code.region id ops true).wpIn (FF rr) m P Q a w

theorem loopV_get {S : St} {i : Nat} {L : Lp} (h : loopV S i = some L) : S.h.get i = some (.loop L) := by
  obtain ⟨o, h1, h2⟩ := ob_some.1 h
  cases o with
  | loop l => simp only [Option.some.injEq] at h2; subst h2; exact h1
  | _ => simp at h2
theorem RS.loopB {D : Dm} {S : St} {w : World} (hS : RS D S w) {i : Nat} {L : Lp} {l : Loc} (h : loopV S i = some L) (hl : D i = some l) : ∃ ld fn ts, w.heap[l.b]? = some (.loop { state := L.st, pending := L.pend, fn, tmps := ts, params := ⟨L.params⟩, assign := L.assign, body := L.body, defers := ld.b }) ∧ l.sh = 0 ∧ D L.dfr = some ld ∧ ld.sh = 0 ∧ RTm D L.sz L.tm ts := by
  obtain ⟨l', ob, g1, g2, g3⟩ := hS.get (loopV_get h)
  rw [hl] at g1; cases g1
  cases g3 with
  | loop _ ld fn ts k1 k2 k3 k4 => exact ⟨ld, fn, ts, g2, k1, k2, k3, k4⟩
theorem RS.putLoop {D : Dm} {S : St} {w : World} (hS : RS D S w) {i : Nat} {L L' : Lp} {l ld : Loc} {fn : FuncId} {ts : Array Value} (h : loopV S i = some L) (hl : D i = some l) (hsh : l.sh = 0) (hd : D L'.dfr = some ld) (hds : ld.sh = 0) (ht : RTm D L'.sz L'.tm ts) {ob : Obj} (hb : w.heap[l.b]? = some ob) (hc : ∀ c e f, ob ≠ .cells c e f) :
    ∃ w', (setObj l.b (.loop { state := L'.st, pending := L'.pend, fn, tmps := ts, params := ⟨L'.params⟩, assign := L'.assign, body := L'.body, defers := ld.b })).run P w = .ok () w' ∧ RS D (putV S i (.loop L')) w' ∧ Fr D S w D (putV S i (.loop L')) w' := by
  refine ⟨_, run_setObj hb hc, hS.put (loopV_get h) hl (wr_setObj hb _) (.loop L' ld fn ts hsh hd hds ht)⟩

theorem then_exit {x : X} {K : Act → World → Prop} {Q : Exit → Act → World → Prop} (hx : x ≠ .normal) {a : Act} {w : World} (h : Q (exitOf x) a w) : Exit.then K Q (exitOf x) a w := by
  cases x with
  | normal => exact absurd rfl hx
  | exit id => exact h
  | ret => exact h

noncomputable def enterV (rnd : Option Nat) (tm : Tm) (S : St) : Option (Nat × St × Tm) := match rnd with
  | none => some (S.n, newV S (.dfr false), (⟨tm.t, tm.ng, S.n :: tm.mks⟩ : Tm))
  | some i => ob (loopV S i) fun L => some (L.dfr, S, tm)
theorem enter_ok {D : Dm} {rnd rr : Option Nat} {sz : Nat} {tm : Tm} {a : Act} {S : St} {w : World} {ps : Array Tmp} {assign body : Code} (hR : RR D rnd rr) (hA : RA D sz tm a) (hS : RS D S w) {e : Nat × St × Tm}
    (h : enterV rnd tm S = some e) {hi : Nat} (hF : Free D S.n hi) (hhi : e.2.1.n ≤ hi) :
    ∃ mark w1 D1 ld, RS D1 e.2.1 w1 ∧ Fr D S w D1 e.2.1 w1 ∧ D1 e.1 = some ld ∧ ld.sh = 0 ∧ RA D1 sz e.2.2 { a with defers := mark ++ a.defers } ∧ e.2.2.ng = tm.ng ∧ e.2.2.t = tm.t ∧
      ∀ fn, (Instr.enterLoop fn a.tmps ps assign body rr).run P w = .ok (w1.heap.size, mark) (w1.alloc (.loop { state := .ready, pending := none, fn, tmps := a.tmps, params := ps, assign, body, defers := ld.b })) := by
  cases hR with
  | none =>
    simp only [enterV, Option.some.injEq] at h
    subst h
    have hn : S.n < hi := hhi
    obtain ⟨q1, q2⟩ := hS.new (c := 0) (hF _ (Nat.le_refl _) hn) (o := .dfr false) (ob := .deferred (some [])) (.dfrN rfl)
    refine ⟨[{ target := .collected w.heap.size, args := #[] }], _, _, ⟨w.heap.size, 0, 0⟩, q1, q2, Dm.up_self _ _ _, rfl, ⟨⟨(RTm.mono q2.le hA.t).sz, fun t v e => (RTm.mono q2.le hA.t).get t v e, (RTm.mono q2.le hA.t).gl⟩, .cons _ ⟨w.heap.size, 0, 0⟩ _ _ (Dm.up_self _ _ _) (hA.m.mono q2.le)⟩, rfl, rfl, fun fn => ?_⟩
    simp [Instr.enterLoop]
  | some i l hl =>
    obtain ⟨L, h1, h2⟩ := ob_some.1 h
    simp only [Option.some.injEq] at h2
    subst h2
    obtain ⟨ld, fn0, ts, g1, g2, g3, g4, g5⟩ := hS.loopB h1 hl
    refine ⟨[], w, D, ld, hS, Fr.refl _ _ _, g3, g4, ⟨hA.t, hA.m⟩, rfl, rfl, fun fn => ?_⟩
    have hgo := run_getObj (P := P) g1 (fun _ _ _ h => by cases h)
    simp [Instr.enterLoop, Instr.getLoop, hgo]

theorem codeX_ok {k : Nat} (hc : CodeOK P H k) (ho : OpOK P H k) (hd : DrawOK P H k) (hcall : CallOK P H k) : CodeOK P H (k + 1) := by
  intro rnd sz c tm S x tm' S' h D a w rr hR hA hN hG hS hF m Q hQ
  have noLoop : ∀ {c : Code}, (∀ b, c ≠ .loop b) → ∀ {p : Prop}, p → p ∧ ∀ b, c = .loop b → LoopWp (FF rr) m P b Q a w := fun hn _ hp => ⟨hp, fun b e => absurd e (hn b)⟩
  cases c with
  | skip =>
    simp only [codeX, Option.some.injEq, Prod.mk.injEq] at h
    obtain ⟨rfl, rfl, rfl⟩ := h
    exact noLoop (fun _ e => by cases e) (wpIn_skip (hQ D a w hA hN hS (Fr.refl _ _ _)))
  | label l =>
    simp only [codeX, Option.some.injEq, Prod.mk.injEq] at h
    obtain ⟨rfl, rfl, rfl⟩ := h
    exact noLoop (fun _ e => by cases e) (wpIn_label (hQ D a w hA hN hS (Fr.refl _ _ _)))
  | exit id =>
    simp only [codeX, Option.some.injEq, Prod.mk.injEq] at h
    obtain ⟨rfl, rfl, rfl⟩ := h
    exact noLoop (fun _ e => by cases e) (wpIn_exit (hQ D a w hA hN hS (Fr.refl _ _ _)))
  | ret =>
    simp only [codeX, Option.some.injEq, Prod.mk.injEq] at h
    obtain ⟨rfl, rfl, rfl⟩ := h
    exact noLoop (fun _ e => by cases e) (wpIn_ret (hQ D a w hA hN hS (Fr.refl _ _ _)))
  | region id ops dr =>
    refine noLoop (fun _ e => by cases e) ?_
    cases dr with
    | false =>
      simp only [codeX] at h
      obtain ⟨⟨tm1, S1⟩, h1, h2⟩ := ob_some.1 h
      simp only [Option.some.injEq, Prod.mk.injEq] at h2
      obtain ⟨rfl, rfl, rfl⟩ := h2
      refine wpIn_region ?_
      have := seqAll_ok (m := m) ho ops.toList 0 tm S tm1 S1 rfl h1 D a w (rr := rr) hA hN hG hS hF Q (fun D' a' w' q1 q2 q3 q4 => hQ D' a' w' q1 q2 q3 q4)
      rw [List.range_eq_range']
      simpa using this
    | true =>
      simp only [codeX] at h
      obtain ⟨h1, h2⟩ := gd_some.1 h
      obtain ⟨DD, h3, h4⟩ := ob_some.1 h2
      simp only [Option.some.injEq, Prod.mk.injEq] at h4
      obtain ⟨rfl, rfl, rfl⟩ := h4
      exact hd id ops sz tm S DD h1 h3 D a w rr hA hN hG hS hF m Q (fun D' a' w' q1 q2 q3 q4 => hQ D' a' w' q1 q2 q3 q4)
  | seq c1 c2 =>
    refine noLoop (fun _ e => by cases e) ?_
    simp only [codeX] at h
    obtain ⟨⟨x1, tm1, S1⟩, h1, h2⟩ := ob_some.1 h
    refine wpIn_seq ?_
    cases x1 with
    | normal =>
      simp only at h2
      obtain ⟨⟨x2, tm2, S2⟩, h3, h4⟩ := ob_some.1 h2
      obtain ⟨h5, h6⟩ := gd_some.1 h4
      simp only [Option.some.injEq, Prod.mk.injEq] at h6
      obtain ⟨rfl, rfl, rfl⟩ := h6
      have hle : S1.n ≤ S2.n := Nat.le_of_ble_eq_true h5
      refine (hc _ _ _ _ _ _ _ _ h1 D a w rr hR hA hN hG hS (hF.left hle) m _ fun D1 a1 w1 q1 q2 q3 q4 => ?_).1
      exact (hc _ _ _ _ _ _ _ _ h3 D1 a1 w1 rr (hR.mono q4.le) q1 q2 (hG.mono q4.le) q3 (hF.next q4) m Q fun D2 a2 w2 k1 k2 k3 k4 => hQ D2 a2 w2 k1 k2 k3 (q4.trans k4)).1
    | exit id =>
      simp only [Option.some.injEq, Prod.mk.injEq] at h2
      obtain ⟨rfl, rfl, rfl⟩ := h2
      refine (hc _ _ _ _ _ _ _ _ h1 D a w rr hR hA hN hG hS hF m _ fun D1 a1 w1 q1 q2 q3 q4 => ?_).1
      exact hQ D1 a1 w1 q1 q2 q3 q4
    | ret =>
      simp only [Option.some.injEq, Prod.mk.injEq] at h2
      obtain ⟨rfl, rfl, rfl⟩ := h2
      refine (hc _ _ _ _ _ _ _ _ h1 D a w rr hR hA hN hG hS hF m _ fun D1 a1 w1 q1 q2 q3 q4 => ?_).1
      exact hQ D1 a1 w1 q1 q2 q3 q4
  | cond o c1 c2 =>
    refine noLoop (fun _ e => by cases e) ?_
    simp only [codeX] at h
    obtain ⟨v, h1, h2⟩ := ob_some.1 h
    have hv := evO_ok hA.t h1
    cases v with
    | bool b =>
      have e := hv.bool_inv
      cases b with
      | true => exact wpIn_cond_true e (hc _ _ _ _ _ _ _ _ h2 D a w rr hR hA hN hG hS hF m Q hQ).1
      | false => exact wpIn_cond_false e (hc _ _ _ _ _ _ _ _ h2 D a w rr hR hA hN hG hS hF m Q hQ).1
    | _ => simp at h2
  | block id b =>
    refine noLoop (fun _ e => by cases e) ?_
    simp only [codeX] at h
    obtain ⟨⟨x1, tm1, S1⟩, h1, h2⟩ := ob_some.1 h
    refine wpIn_block ?_
    cases x1 with
    | normal =>
      simp only [Option.some.injEq, Prod.mk.injEq] at h2
      obtain ⟨rfl, rfl, rfl⟩ := h2
      refine (hc _ _ _ _ _ _ _ _ h1 D a w rr hR hA hN hG hS hF m _ fun D1 a1 w1 q1 q2 q3 q4 => ?_).1
      exact hQ D1 a1 w1 q1 q2 q3 q4
    | ret =>
      simp only [Option.some.injEq, Prod.mk.injEq] at h2
      obtain ⟨rfl, rfl, rfl⟩ := h2
      refine (hc _ _ _ _ _ _ _ _ h1 D a w rr hR hA hN hG hS hF m _ fun D1 a1 w1 q1 q2 q3 q4 => ?_).1
      exact hQ D1 a1 w1 q1 q2 q3 q4
    | exit j =>
      simp only [Option.some.injEq, Prod.mk.injEq] at h2
      obtain ⟨rfl, rfl, rfl⟩ := h2
      refine (hc _ _ _ _ _ _ _ _ h1 D a w rr hR hA hN hG hS hF m _ fun D1 a1 w1 q1 q2 q3 q4 => ?_).1
      have := hQ D1 a1 w1 q1 q2 q3 q4
      rw [brec] at this
      show if j = id then Q .normal a1 w1 else Q (.exit j) a1 w1
      cases e : Nat.beq j id with
      | true => rw [e] at this; rw [if_pos (Nat.eq_of_beq_eq_true e)]; exact this
      | false => rw [e] at this; rw [if_neg (Nat.ne_of_beq_eq_false e)]; exact this
  | loop b =>
    have L : LoopWp (FF rr) m P b Q a w := by
      simp only [codeX] at h
      obtain ⟨⟨x1, tm1, S1⟩, h1, h2⟩ := ob_some.1 h
      refine LoopWp.step ?_
      cases x1 with
      | normal =>
        simp only at h2
        obtain ⟨⟨x2, tm2, S2⟩, h3, h4⟩ := ob_some.1 h2
        obtain ⟨h5, h6⟩ := gd_some.1 h4
        simp only [Option.some.injEq, Prod.mk.injEq] at h6
        obtain ⟨rfl, rfl, rfl⟩ := h6
        have hle : S1.n ≤ S2.n := Nat.le_of_ble_eq_true h5
        refine (hc _ _ _ _ _ _ _ _ h1 D a w rr hR hA hN hG hS (hF.left hle) m _ fun D1 a1 w1 q1 q2 q3 q4 => ?_).1
        exact (hc _ _ _ _ _ _ _ _ h3 D1 a1 w1 rr (hR.mono q4.le) q1 q2 (hG.mono q4.le) q3 (hF.next q4) m Q fun D2 a2 w2 k1 k2 k3 k4 => hQ D2 a2 w2 k1 k2 k3 (q4.trans k4)).2 b rfl
      | exit id =>
        simp only [Option.some.injEq, Prod.mk.injEq] at h2
        obtain ⟨rfl, rfl, rfl⟩ := h2
        refine (hc _ _ _ _ _ _ _ _ h1 D a w rr hR hA hN hG hS hF m _ fun D1 a1 w1 q1 q2 q3 q4 => ?_).1
        exact hQ D1 a1 w1 q1 q2 q3 q4
      | ret =>
        simp only [Option.some.injEq, Prod.mk.injEq] at h2
        obtain ⟨rfl, rfl, rfl⟩ := h2
        refine (hc _ _ _ _ _ _ _ _ h1 D a w rr hR hA hN hG hS hF m _ fun D1 a1 w1 q1 q2 q3 q4 => ?_).1
        exact hQ D1 a1 w1 q1 q2 q3 q4
    exact ⟨L.wpIn, fun b' e => by cases e; exact L⟩
  | scope b =>
    refine noLoop (fun _ e => by cases e) ?_
    simp only [codeX] at h
    obtain ⟨h1, h2⟩ := gd_some.1 h
    cases hR with
    | some => simp at h1
    | none =>
      have := (hc _ _ _ _ _ _ _ _ h2 D a w none .none hA hN hG hS hF m (Exit.noGoto Q) (fun D1 a1 w1 q1 q2 q3 q4 => by
        have := hQ D1 a1 w1 q1 q2 q3 q4
        cases x <;> exact this)).1
      exact wpIn_wide.2 (wp_scope_straight (wpIn_wide.1 this))
  | rangeFunc f ps assign body =>
    refine noLoop (fun _ e => by cases e) ?_
    simp only [codeX] at h
    obtain ⟨g, h1, h2⟩ := ob_some.1 h
    have hg := evO_ok hA.t h1
    generalize hev : a.eval f = fr at hg
    cases hg with
    | func fg pa pb pa' pb' k1 k2 k3 k4 =>
      simp only at h2
      obtain ⟨e, h3, h4⟩ := ob_some.1 h2
      obtain ⟨⟨v, S2⟩, h5, h6⟩ := ob_some.1 h4
      obtain ⟨h7, h8⟩ := gd_some.1 h6
      obtain ⟨L, h9, h10⟩ := ob_some.1 h8
      obtain ⟨h11, h12⟩ := gd_some.1 h10
      have hle1 : e.2.1.n + 1 ≤ S2.n := Nat.le_of_ble_eq_true h7
      have hle2 : S2.n ≤ S'.n := by
        cases hp : L.pend with
        | none =>
          rw [hp] at h12
          simp only [Option.some.injEq, Prod.mk.injEq] at h12
          rw [← h12.2.2]; exact Nat.le_refl _
        | some c =>
          rw [hp] at h12
          simp only at h12
          obtain ⟨y, -, h14⟩ := ob_some.1 h12
          obtain ⟨h15, h16⟩ := gd_some.1 h14
          simp only [Option.some.injEq] at h16
          subst h16
          exact Nat.le_of_ble_eq_true h15
      refine wpIn_rangeFunc fun fn _ => ?_
      obtain ⟨mark, w1, D1, ld, e1, e2, e3, e4, e5, e6, e7, e8⟩ := enter_ok (P := P) (ps := ps) (assign := assign) (body := body) hR hA hS (show enterV rnd tm S = some e from h3) hF (by omega)
      have hF1 := hF.next e2
      have hfree1 : D1 e.2.1.n = none := hF1 _ (Nat.le_refl _) (by omega)
      have ht1 : RTm D1 sz ⟨tm.t, tm.ng, []⟩ a.tmps := ⟨(RTm.mono e2.le hA.t).sz, (RTm.mono e2.le hA.t).get, (RTm.mono e2.le hA.t).gl⟩
      have hle0 := Dm.le_up (l := ⟨w1.heap.size, 0, 0⟩) hfree1
      obtain ⟨n1, n2⟩ := e1.new (c := 0) hfree1 (o := .loop ⟨.ready, none, sz, ⟨tm.t, tm.ng, []⟩, ps.toList, assign, body, e.1⟩) (ob := .loop { state := .ready, pending := none, fn, tmps := a.tmps, params := ⟨ps.toList⟩, assign, body, defers := ld.b }) (.loop _ ld fn a.tmps rfl (hle0 _ _ e3) e4 (ht1.mono hle0))
      generalize hD2 : D1.up e.2.1.n ⟨w1.heap.size, 0, 0⟩ = D2 at n1 n2 hle0
      have hl2 : D2 e.2.1.n = some ⟨w1.heap.size, 0, 0⟩ := by rw [← hD2]; exact Dm.up_self _ _ _
      have fr2 := e2.trans n2
      have hyl : RV D2 (.func (.yield e.2.1.n) #[] #[]) (.func (.yield w1.heap.size) #[] #[]) := .yld e.2.1.n _ hl2
      have hargs : RL D2 (pa ++ (.func (.yield e.2.1.n) #[] #[] :: pb)) (pa' ++ (.func (.yield w1.heap.size) #[] #[] :: pb')) := (RL.mono fr2.le ⟨k1, k3⟩).append (.cons hyl (RL.mono fr2.le ⟨k2, k4⟩))
      have hfn : HasBody P fg := by
        rcases callX_kind h5 with q | ⟨-, q, -⟩
        · exact q
        · exfalso
          rw [List.all_eq_true] at q
          have := q (.func (.yield e.2.1.n) #[] #[]) (by simp)
          simp [pl] at this
      have hcl := hcall _ _ _ _ _ h5 hfn D2 _ _ hargs n1 ((hF.next fr2).left hle2) (hG.mono fr2.le) (m - 1)
      obtain ⟨F, c, f1, f2, f3⟩ := hfn
      let W2 := w1.alloc (.loop { state := .ready, pending := none, fn, tmps := a.tmps, params := ps, assign, body, defers := ld.b })
      refine ⟨w1.heap.size, mark, W2, { target := .fn (.func fg) ⟨pb'⟩, args := ⟨pa'⟩ ++ #[.func (.yield w1.heap.size) #[] #[]] }, W2, fg, ⟨pa' ++ (.func (.yield w1.heap.size) #[] #[] :: pb')⟩, W2, e8 fn, ?_, fun _ _ => trivial, ?_, fun h => (by cases h), ?_⟩
      · simp only [resolve, hev, Deferred.ofValue, Sem.run_pure]
        rw [show Array.map a.eval #[Operand.const (Value.func (Fn.yield w1.heap.size) #[] #[])] = #[Value.func (Fn.yield w1.heap.size) #[] #[]] by simp [Act.eval]]
      · simp only [invoke]
        rw [show ((Array.mk pa' ++ #[Value.func (.yield w1.heap.size) #[] #[]]) ++ Array.mk pb') = ⟨pa' ++ (.func (.yield w1.heap.size) #[] #[] :: pb')⟩ by simp]
        exact run_callFunc f1 f2 f3
      · refine ⟨trivial, fun cs hro => ?_⟩
        obtain ⟨e0, w3, fr3, ⟨D3, r3, c1, c2, c3, c4⟩, s1, s2, s3⟩ := hcl.2 cs hro
        subst c1
        refine ⟨.returned r3, w3, fr3, ?_, s1, s2, s3⟩
        have fr3 := fr2.trans c4
        have hl3 := c4.le _ _ hl2
        obtain ⟨ld3, fn3, ts3, g1, g2, g3, g4, g5⟩ := c3.loopB h9 hl3
        obtain ⟨w4, p1, p2, p3⟩ := c3.putLoop (P := P) (L' := { L with st := .exhausted }) (fn := fn3) (ts := ts3) h9 hl3 g2 g3 g4 g5 g1 (fun _ _ _ h => by cases h)
        have hgo := run_getObj (P := P) g1 (fun _ _ _ h => by cases h)
        have hnb : ¬ (L.st = LoopState.busy) := fun e => by rw [e] at h11; simp [isBsy] at h11
        have hend : (Instr.endLoop w1.heap.size).run P w3 = .ok L.pend w4 := by
          simp [Instr.endLoop, Instr.getLoop, hgo, hnb, p1]
        refine ⟨L.pend, w4, hend, ?_⟩
        have fr4 := fr3.trans p3
        have hA4 : RA D3 sz e.2.2 { a with defers := mark ++ a.defers } := (e5.mono n2.le).mono c4.le
        cases hp : L.pend with
        | none =>
          rw [hp] at h12 p2 fr4
          simp only [Option.some.injEq, Prod.mk.injEq] at h12
          obtain ⟨rfl, rfl, rfl⟩ := h12
          exact hQ D3 _ w4 hA4 (e6.trans hN) p2 fr4
        | some c =>
          rw [hp] at h12 p2 fr4
          simp only at h12
          obtain ⟨⟨y1, y2, y3⟩, h13, h14⟩ := ob_some.1 h12
          obtain ⟨h15, h16⟩ := gd_some.1 h14
          simp only [Option.some.injEq, Prod.mk.injEq] at h16
          obtain ⟨rfl, rfl, rfl⟩ := h16
          exact (hc _ _ _ _ _ _ _ _ h13 D3 _ w4 rr (hR.mono fr3.le) hA4 (e6.trans hN) (hG.mono fr3.le) p2 (hF.next fr4) m Q fun D5 a5 w5 j1 j2 j3 j4 => hQ D5 a5 w5 j1 j2 j3 (fr4.trans j4)).1
    | _ => simp at h2
  | _ => simp [codeX] at h

theorem setPs_ok {D : Dm} {sz : Nat} : ∀ {ps : List Tmp} {vs rs : List Value} {tm tm' : Tm} {ts : Array Value}, setPs sz ps vs tm = some tm' → RL D vs rs → RTm D sz tm ts → RTm D sz tm' ((ps.zip rs).foldl (fun (ts : Array Value) (x : Tmp × Value) => ts.setIfInBounds x.1 x.2) ts) ∧ tm'.ng = tm.ng ∧ tm'.mks = tm.mks ∧ rs.length = ps.length
  | [], [], rs, tm, tm', ts, h, hv, ht => by
    cases h
    rw [hv.nil_inv]
    exact ⟨ht, rfl, rfl, rfl⟩
  | p :: ps, v :: vs, rs, tm, tm', ts, h, hv, ht => by
    simp only [setPs] at h
    obtain ⟨h1, h2⟩ := gd_some.1 h
    obtain ⟨y, r, rfl, hy, hr⟩ := hv.cons_inv
    obtain ⟨q1, q2, q3⟩ := putT_ok (d := some p) (gd_some.2 ⟨h1, rfl⟩) ht hy
    obtain ⟨k1, k2, k3, k4⟩ := setPs_ok h2 hr q1
    exact ⟨k1, k2.trans q2, k3.trans q3, by simp [k4]⟩
  | [], _ :: _, rs, tm, tm', ts, h, hv, ht => by simp [setPs] at h
  | _ :: _, [], rs, tm, tm', ts, h, hv, ht => by simp [setPs] at h

theorem roundX_ok {k : Nat} (hc : CodeOK P H k) : RoundOK P H (k + 1) := by
  intro i args S v S' h D w rargs l hl hargs hS hF hG m rr
  simp only [roundX] at h
  obtain ⟨L, h1, h2⟩ := ob_some.1 h
  obtain ⟨h3, h4⟩ := gd_some.1 h2
  simp only [Bool.and_eq_true] at h3
  have hng : L.tm.ng = P.globals.size := Nat.eq_of_beq_eq_true h3.2
  obtain ⟨tm, h5, h6⟩ := ob_some.1 h4
  obtain ⟨⟨x1, tm1, S1⟩, h7, h8⟩ := ob_some.1 h6
  cases x1 with
  | exit id => simp at h8
  | ret => simp at h8
  | normal =>
  simp only at h8
  obtain ⟨L1, h9, h10⟩ := ob_some.1 h8
  obtain ⟨h11, h12⟩ := gd_some.1 h10
  obtain ⟨⟨x2, tm2, S2⟩, h13, h14⟩ := ob_some.1 h12
  obtain ⟨h15, h16⟩ := gd_some.1 h14
  obtain ⟨L2, h17, h18⟩ := ob_some.1 h16
  simp only [Option.some.injEq, Prod.mk.injEq] at h18
  obtain ⟨rfl, rfl⟩ := h18
  have hle : S1.n ≤ S2.n := Nat.le_of_ble_eq_true h15
  obtain ⟨ld, fn, ts, g1, g2, g3, g4, g5⟩ := hS.loopB h1 hl
  have hgo := run_getObj (P := P) g1 (fun _ _ _ h => by cases h)
  obtain ⟨t1, t2, t3, t4⟩ := setPs_ok h5 hargs g5
  refine ⟨fn, (L.params.zip rargs).foldl (fun (ts : Array Value) (x : Tmp × Value) => ts.setIfInBounds x.1 x.2) ts, L.assign, L.body, ?_, ?_⟩
  · simp only [Instr.yield, Instr.getLoop, Sem.run_bind, hgo, Result.andThen_ok, Sem.run_pure]
    rw [if_neg (by simp [t4])]
    simp only [Sem.run_pure]
    have : ∀ (l : List (Tmp × Value)) (ts : Array Value), (Array.mk l).foldl (fun (tmps : Array Value) (x : Tmp × Value) => match x with | (t, a) => tmps.setIfInBounds t a) ts = l.foldl (fun (ts : Array Value) (x : Tmp × Value) => ts.setIfInBounds x.1 x.2) ts := fun l ts => by
      rw [← Array.foldl_toList]
    rw [show (Array.mk L.params).zip (Array.mk rargs) = Array.mk (L.params.zip rargs) by simp]
    exact congrArg (fun t => Result.ok (Next.round l.b fn t L.assign L.body) w) (this _ _)
  · refine roundIn_of_wpIn trivial ?_
    have hA : RA D L.sz ⟨tm.t, tm.ng, []⟩ { tmps := (L.params.zip rargs).foldl (fun (ts : Array Value) (x : Tmp × Value) => ts.setIfInBounds x.1 x.2) ts, defers := [] } := ⟨⟨t1.sz, fun t v e => t1.get t v e, t1.gl⟩, .nil⟩
    refine (hc _ _ _ _ _ _ _ _ h7 D _ w (some l.b) (.some i l hl) hA (t2.trans hng) hG hS (hF.left hle) m _ fun D1 a1 w1 q1 q2 q3 q4 => ?_).1
    have hl1 := q4.le _ _ hl
    obtain ⟨ld1, fn1, ts1, k1, k2, k3, k4, k5⟩ := q3.loopB h9 hl1
    have hgo1 := run_getObj (P := P) k1 (fun _ _ _ h => by cases h)
    obtain ⟨w2, p1, p2, p3⟩ := q3.putLoop (P := P) (L' := { L1 with st := .busy }) (fn := fn1) (ts := ts1) h9 hl1 k2 k3 k4 k5 k1 (fun _ _ _ h => by cases h)
    have hrdy : L1.st = .ready := by cases hst : L1.st <;> rw [hst] at h11 <;> first | rfl | (simp [isRdy] at h11)
    refine ⟨w2, ?_, ?_⟩
    · rw [hrdy] at hgo1
      simp [Instr.beginRound, Instr.getLoop, hgo1, p1]
    · have fr2 := q4.trans p3
      refine (hc _ _ _ _ _ _ _ _ h13 D1 a1 w2 (some l.b) (.some i l hl1) q1 q2 (hG.mono fr2.le) p2 (hF.next fr2) m _ fun D3 a3 w3 j1 j2 j3 j4 => ?_).1
      have hl3 := j4.le _ _ hl1
      obtain ⟨ld3, fn3, ts3, m1, m2, m3, m4, m5⟩ := j3.loopB h17 hl3
      have hgo3 := run_getObj (P := P) m1 (fun _ _ _ h => by cases h)
      obtain ⟨w4, n1, n2, n3⟩ := j3.putLoop (P := P) (L' := { L2 with st := @Bool.rec (fun _ => LoopState) .done .ready (jumpOf x2).isNone, pend := jumpOf x2 }) (fn := fn3) (ts := ts3) h17 hl3 m2 m3 m4 m5 m1 (fun _ _ _ h => by cases h)
      have hend : (Instr.endRound l.b (jumpOf x2)).run P w3 = .ok (.bool (jumpOf x2).isNone) w4 := by
        have e : (if (jumpOf x2).isNone = true then LoopState.ready else LoopState.done) = @Bool.rec (fun _ => LoopState) .done .ready (jumpOf x2).isNone := by cases (jumpOf x2).isNone <;> rfl
        simp only [Instr.endRound, Instr.getLoop, Sem.run_bind, hgo3, Result.andThen_ok, Sem.run_pure, e]
        rw [n1]; rfl
      have fin : ∃ v w', (Instr.endRound l.b (jumpOf x2)).run P w3 = .ok v w' ∧ ∃ D' r, Ending.returned v = .returned r ∧ RV D' (.bool (jumpOf x2).isNone) r ∧ RS D' (putV S2 i (.loop { L2 with st := @Bool.rec (fun _ => LoopState) .done .ready (jumpOf x2).isNone, pend := jumpOf x2 })) w' ∧ Fr D S w D' (putV S2 i (.loop { L2 with st := @Bool.rec (fun _ => LoopState) .done .ready (jumpOf x2).isNone, pend := jumpOf x2 })) w' :=
        ⟨_, w4, hend, D3, _, rfl, .bool _, n2, fr2.trans (j4.trans n3)⟩
      cases x2 <;> exact fin
end
end Go.Ex
