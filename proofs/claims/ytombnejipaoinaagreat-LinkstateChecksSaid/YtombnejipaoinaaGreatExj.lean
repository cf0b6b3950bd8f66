/-
  The evaluator's maps.
-/
/-
  The evaluator's map entries and walks.
-/
import Derived.Test.YtombnejipaoinaaGreatExg
namespace Go.Ex
open Go

section
variable {D : Dm} {n : Nat} {tm : Tm} {a : Act} {P : Program} {S : St} {w : World} {H : Hooks}

theorem RS.mapB (h : RS D S w) {i : Nat} {es : List MapEntry} {c : Nat} (hr : mapV S i = some (es, c)) : ∃ l res, S.h.get i = some (.map es c) ∧ D i = some l ∧ w.heap[l.b]? = some (.map ⟨res⟩ c) ∧ l.sh = 0 ∧ RE D es res := by
  obtain ⟨o, h1, h2⟩ := ob_some.1 hr
  cases o with
  | map es' c' =>
    simp only [Option.some.injEq, Prod.mk.injEq] at h2
    obtain ⟨rfl, rfl⟩ := h2
    obtain ⟨l, ob, h3, h4, h5⟩ := h.rh.blk i _ h1
    cases h5 with
    | map _ _ res k1 k2 => exact ⟨l, res, h1, h3, h4, k1, k2⟩
  | _ => simp at h2

theorem mapT_ok {t : TypeId} {m : TypeId × TypeId} (h : mapT (envH P H) t = some m) : und (envH P H) t = some (.map m.1 m.2) := by
  obtain ⟨d, h1, h2⟩ := ob_some.1 h
  cases d <;> simp at h2
  subst h2; exact h1
theorem mref_ok {v r : Value} {i : Nat} (h : mref v = some i) (hr : RV D v r) : ∃ l, D i = some l ∧ r = .map (some l.b) := by
  cases hr <;> simp [mref] at h
  subst h
  exact ⟨_, by assumption, rfl⟩

theorem run_getObj {b : Nat} {o : Obj} (h : w.heap[b]? = some o) (hc : ∀ c e f, o ≠ .cells c e f) : (getObj b).run P w = .ok o w := by
  cases o <;> first
    | exact absurd rfl (hc _ _ _)
    | simp only [getObj, Sem.run, h]
theorem run_setObj {b : Nat} {o o' : Obj} (h : w.heap[b]? = some o) (hc : ∀ c e f, o ≠ .cells c e f) : (setObj b o').run P w = .ok () { w with heap := w.heap.setIfInBounds b o' } := by
  cases o <;> first
    | exact absurd rfl (hc _ _ _)
    | simp only [setObj, Sem.run, h]
theorem wr_setObj {b : Nat} {o : Obj} (h : w.heap[b]? = some o) (o' : Obj) : Wr w { w with heap := w.heap.setIfInBounds b o' } b o' := by
  have hb : b < w.heap.size := by
    rcases Nat.lt_or_ge b w.heap.size with c | c
    · exact c
    · rw [Array.getElem?_eq_none c] at h; cases h
  refine ⟨by simp, by simp [hb], fun k hk => ?_, rfl, rfl, rfl⟩
  exact Array.getElem?_setIfInBounds_ne (Ne.symm hk)

/-- looking for a key: real entries as the evaluator's -/
theorem findNow_ok {d : TypeDesc} {k : Value} : ∀ {es es' : List MapEntry} (_ : RE D es es') (i : Nat), (∃ r, Instr.findNow d k es i = some (some r) ∧ ∃ u, Instr.findNow d k es' i = some (some (r.1, u)) ∧ RV D r.2 u ∧ i ≤ r.1 ∧ ∃ e, es[r.1 - i]? = some e ∧ e.val = r.2) ∨ (Instr.findNow d k es i = some none ∧ Instr.findNow d k es' i = some none) ∨ (Instr.findNow d k es i = none ∧ Instr.findNow d k es' i = none)
  | [], es', h, i => by
    have : es' = [] := List.eq_nil_of_length_eq_zero h.1.symm
    subst this
    exact .inr (.inl ⟨rfl, rfl⟩)
  | e :: es, [], h, i => by have := h.1; simp at this
  | e :: es, e' :: es', h, i => by
    obtain ⟨k1, k2, k3, k4⟩ := h.2 0 e e' rfl rfl
    have h' : RE D es es' := ⟨by have := h.1; simpa using this, fun j x y hx hy => h.2 (j + 1) x y (by simpa using hx) (by simpa using hy)⟩
    simp only [Instr.findNow, k1]
    cases Instr.sameNow d k e.key with
    | none => exact .inr (.inr ⟨rfl, rfl⟩)
    | some b =>
      cases b with
      | true => exact .inl ⟨(i, e.val), rfl, e'.val, rfl, k4, Nat.le_refl _, e, by simp, rfl⟩
      | false =>
        rcases findNow_ok h' (i + 1) with ⟨r, q1, u, q2, q3, q4, x, q5, q6⟩ | q | q
        · refine .inl ⟨r, q1, u, q2, q3, by omega, x, ?_, q6⟩
          rw [show r.1 - i = (r.1 - (i + 1)) + 1 by omega, List.getElem?_cons_succ]; exact q5
        · exact .inr (.inl q)
        · exact .inr (.inr q)
theorem findAsking_ok {kt : TypeId} {k : Value} (w : World) : ∀ {es es' : List MapEntry} (_ : RE D es es') (i : Nat) {f : Option (Nat × Value)}, pureRun P (Instr.findAsking kt k es i) = some f → (f = none ∧ (Instr.findAsking kt k es' i).run P w = .ok none w) ∨ ∃ r u, f = some r ∧ (Instr.findAsking kt k es' i).run P w = .ok (some (r.1, u)) w ∧ RV D r.2 u ∧ i ≤ r.1 ∧ ∃ e, es[r.1 - i]? = some e ∧ e.val = r.2
  | [], es', h, i, f, hf => by
    have : es' = [] := List.eq_nil_of_length_eq_zero h.1.symm
    subst this
    simp only [Instr.findAsking, pure, pureRun, Option.some.injEq] at hf
    exact .inl ⟨hf.symm, rfl⟩
  | e :: es, [], h, i, f, hf => by have := h.1; simp at this
  | e :: es, e' :: es', h, i, f, hf => by
    obtain ⟨k1, k2, k3, k4⟩ := h.2 0 e e' rfl rfl
    have h' : RE D es es' := ⟨by have := h.1; simpa using this, fun j x y hx hy => h.2 (j + 1) x y (by simpa using hx) (by simpa using hy)⟩
    simp only [Instr.findAsking] at hf ⊢
    rw [k1]
    obtain ⟨b, hb, hf⟩ := pureRun_bind hf
    have hb' := pureRun_run hb w
    cases b with
    | true =>
      simp only [if_true, pure, pureRun, Option.some.injEq] at hf
      subst hf
      refine .inr ⟨(i, e.val), e'.val, rfl, ?_, k4, Nat.le_refl _, e, by simp, rfl⟩
      simp [hb']
    | false =>
      simp only [Bool.false_eq_true, if_false] at hf
      rcases findAsking_ok w h' (i + 1) hf with ⟨q1, q2⟩ | ⟨r, u, q1, q2, q3, q4, x, q5, q6⟩
      · exact .inl ⟨q1, by simp [hb', q2]⟩
      · refine .inr ⟨r, u, q1, by simp [hb', q2], q3, by omega, x, ?_, q6⟩
        rw [show r.1 - i = (r.1 - (i + 1)) + 1 by omega, List.getElem?_cons_succ]; exact q5

theorem find_ok {kt : TypeId} {k : Value} {es es' : List MapEntry} {f : Option (Nat × Value)} (h : findV (envH P H) kt k es = some f) (he : RE D es es') (w : World) : (f = none ∧ (Instr.findKey kt k es').run P w = .ok none w) ∨ ∃ i v u e, f = some (i, v) ∧ (Instr.findKey kt k es').run P w = .ok (some (i, u)) w ∧ RV D v u ∧ es[i]? = some e ∧ e.val = v := by
  unfold findV Instr.findKey at h
  obtain ⟨d, h1, h2⟩ := pureRun_bind h
  have hd : (underlying kt).run P w = .ok d w := pureRun_run h1 w
  rcases findNow_ok (d := d) (k := k) he 0 with ⟨r, q1, u, q2, q3, q4, x, q5, q6⟩ | ⟨q1, q2⟩ | ⟨q1, q2⟩
  · rw [q1] at h2
    simp only [pure, pureRun, Option.some.injEq] at h2
    subst h2
    refine .inr ⟨r.1, r.2, u, x, rfl, ?_, q3, by simpa using q5, q6⟩
    simp [Instr.findKey, hd, q2]
  · rw [q1] at h2
    simp only [pure, pureRun, Option.some.injEq] at h2
    subst h2
    refine .inl ⟨rfl, ?_⟩
    simp [Instr.findKey, hd, q2]
  · rw [q1] at h2
    rcases findAsking_ok (P := P) w he 0 h2 with ⟨r1, r2⟩ | ⟨r, u, r1, r2, r3, r4, x, r5, r6⟩
    · exact .inl ⟨r1, by simp [Instr.findKey, hd, q2, r2]⟩
    · exact .inr ⟨r.1, r.2, u, x, r1, by simp [Instr.findKey, hd, q2, r2], r3, by simpa using r5, r6⟩
theorem key_ok {b : Bool} {kt : TypeId} {k r : Value} (h : keyB (envH P H) b kt k = true) (hr : RV D k r) (w : World) : r = k ∧ pl 4 k = true ∧ (Instr.checkKey b 10000 kt k).run P w = .ok () w := by
  unfold keyB at h
  simp only [Bool.and_eq_true] at h
  obtain ⟨h1, h2⟩ := h
  obtain ⟨u, hu⟩ := Option.isSome_iff_exists.1 h2
  exact ⟨pl_eq 4 k r h1 hr, h1, pureRun_run hu w⟩

/-- a map written -/
theorem RS.putMap (hS : RS D S w) {i : Nat} {es es2 : List MapEntry} {c c2 : Nat} {l : Loc} {res res2 : List MapEntry} (hi : S.h.get i = some (.map es c)) (hl : D i = some l) (hb : w.heap[l.b]? = some (.map ⟨res⟩ c)) (hs : l.sh = 0) (hr : RE D es2 res2) :
    (setObj l.b (.map ⟨res2⟩ c2)).run P w = .ok () { w with heap := w.heap.setIfInBounds l.b (.map ⟨res2⟩ c2) } ∧ RS D (putV S i (.map es2 c2)) { w with heap := w.heap.setIfInBounds l.b (.map ⟨res2⟩ c2) } ∧ Fr D S w D (putV S i (.map es2 c2)) { w with heap := w.heap.setIfInBounds l.b (.map ⟨res2⟩ c2) } := by
  refine ⟨run_setObj hb (fun _ _ _ h => by cases h), ?_⟩
  exact hS.put hi hl (wr_setObj hb _) (.map es2 c2 res2 hs hr)

theorem RE.modify {es es' : List MapEntry} (h : RE D es es') (i : Nat) (f f' : MapEntry → MapEntry) (hf : ∀ e e', es[i]? = some e → es'[i]? = some e' → (f' e').key = (f e).key ∧ pl 4 (f e).key = true ∧ (f' e').born = (f e).born ∧ RV D (f e).val (f' e').val) : RE D (es.modify i f) (es'.modify i f') := by
  refine ⟨by simp [h.1], fun j x y hx hy => ?_⟩
  rw [List.getElem?_modify] at hx hy
  by_cases c : i = j
  · subst c
    simp only [if_true] at hx hy
    cases h1 : es[i]? with
    | none => rw [h1] at hx; simp at hx
    | some e =>
      cases h2 : es'[i]? with
      | none => rw [h2] at hy; simp at hy
      | some e' =>
        rw [h1] at hx; rw [h2] at hy
        simp at hx hy
        subst hx hy
        exact hf e e' h1 h2
  · simp only [if_neg c] at hx hy
    simp at hx hy
    exact h.2 j x y hx hy
theorem RE.push {es es' : List MapEntry} (h : RE D es es') {e e' : MapEntry} (hk : e'.key = e.key) (hp : pl 4 e.key = true) (hb : e'.born = e.born) (hv : RV D e.val e'.val) : RE D (es ++ [e]) (es' ++ [e']) := by
  refine ⟨by simp [h.1], fun j x y hx hy => ?_⟩
  have hl := h.1
  rcases Nat.lt_trichotomy j es.length with c | c | c
  · rw [List.getElem?_append_left c] at hx
    rw [List.getElem?_append_left (by omega)] at hy
    exact h.2 j x y hx hy
  · subst c
    rw [List.getElem?_append_right (Nat.le_refl _)] at hx
    rw [List.getElem?_append_right (by omega)] at hy
    simp [hl] at hx hy
    subst hx hy
    exact ⟨hk, hp, hb, hv⟩
  · rw [List.getElem?_eq_none (by simp; omega)] at hx; cases hx
theorem RE.at {es es' : List MapEntry} (h : RE D es es') {i : Nat} {e : MapEntry} (hi : es[i]? = some e) : ∃ e', es'[i]? = some e' ∧ e'.key = e.key ∧ pl 4 e.key = true ∧ e'.born = e.born ∧ RV D e.val e'.val := by
  have c : i < es.length := (List.getElem?_eq_some_iff.1 hi).1
  have c' : i < es'.length := h.1 ▸ c
  have h2 := List.getElem?_eq_getElem c'
  exact ⟨es'[i], h2, h.2 i e _ hi h2⟩

variable {dst : Option Tmp} {ty : TypeId} {pos : String} {after : Array Edge} {guard : Option (Nat × Bool)}

theorem makeMap_ok (hT : RT D n tm a) (hS : RS D S w) {t : TypeId} {x : Option Operand} {v : Value} {S' : St} (h : heapV (envH P H) tm S (.makeMap t x) = some (v, S')) (hf : ∀ i, S.n ≤ i → i < S'.n → D i = none) : Did P D S w ⟨dst, .makeMap t x, ty, pos, after, guard⟩ a v S' := by
  obtain ⟨m, h1, h2⟩ := ob_some.1 h
  obtain ⟨k, h3, h4⟩ := ob_some.1 h2
  simp only [Option.some.injEq, Prod.mk.injEq] at h4
  obtain ⟨rfl, rfl⟩ := h4
  obtain ⟨q3, q4⟩ := hS.new (c := 0) (hf _ (Nat.le_refl _) (Nat.lt_succ_self _)) (ob := .map ⟨[]⟩ 0) (.map [] 0 [] rfl ⟨rfl, fun i e e' h => by simp at h⟩)
  refine ⟨_, _, .map (some w.heap.size), _, ?_, .value _, .map S.n _ (Dm.up_self _ _ _), q3, q4⟩
  have hm := run_under (mapT_ok h1) w
  simp only [execOp]
  cases x with
  | none => simp [Instr.makeMap]
  | some x =>
    obtain ⟨u, h5, h6⟩ := ob_some.1 h3
    obtain ⟨kk, e⟩ := intV_ok h6 (evO_ok hT h5)
    simp [Instr.makeMap, hm, e, asInt, asIntOf]

theorem lookup_ok (hT : RT D n tm a) (hS : RS D S w) {t : TypeId} {x k : Operand} {ok : Bool} {v : Value} {S' : St} (h : heapV (envH P H) tm S (.lookup t x k ok) = some (v, S')) : Did P D S w ⟨dst, .lookup t x k ok, ty, pos, after, guard⟩ a v S' := by
  obtain ⟨m, h1, h2⟩ := ob_some.1 h
  obtain ⟨kv, h3, h4⟩ := ob_some.1 h2
  obtain ⟨xv, h5, h6⟩ := ob_some.1 h4
  obtain ⟨es, h7, h8⟩ := ob_some.1 h6
  obtain ⟨h9, h10⟩ := gd_some.1 h8
  obtain ⟨f, h11, h12⟩ := ob_some.1 h10
  have hm := run_under (mapT_ok h1) w
  obtain ⟨ek, hpk, hck⟩ := key_ok (P := P) h9 (evO_ok hT h3) w
  have hx := evO_ok hT h5
  -- the real entries
  obtain ⟨res, hres, hre⟩ : ∃ res, (∀ {β : Type} (s1 s2 : String) (g : Array MapEntry → Sem β), (do
      let es ← match a.eval x with
        | .map none => pure #[]
        | .map (some r) => do
          let .map es _ ← getObj r | stuck s1
          pure es
        | _ => stuck s2
      g es : Sem β).run P w = (g ⟨res⟩).run P w) ∧ RE D es res := by
    generalize a.eval x = r at hx
    cases hx with
    | nilMap =>
      cases h7
      exact ⟨[], fun _ _ g => by simp, rfl, fun i e e' h => by simp at h⟩
    | map i l hl =>
      obtain ⟨⟨es', c⟩, q1, q2⟩ := ob_some.1 h7
      cases q2
      obtain ⟨l', res, r1, r2, r3, r4, r5⟩ := hS.mapB q1
      rw [hl] at r2; cases r2
      refine ⟨res, fun _ _ g => ?_, r5⟩
      simp [run_getObj r3 (fun _ _ _ h => by cases h)]
    | _ => simp at h7
  have hemp : (Array.mk res).isEmpty = es.isEmpty := by
    have := hre.1
    cases res <;> cases es <;> simp_all
  rcases find_ok h11 hre w with ⟨e1, e2⟩ | ⟨i, u, u', e, e1, e2, e3, e4, e5⟩
  · subst e1
    simp only at h12
    obtain ⟨z, h13, h14⟩ := ob_some.1 h12
    simp only [Option.some.injEq, Prod.mk.injEq] at h14
    obtain ⟨rfl, rfl⟩ := h14
    obtain ⟨hz, hp⟩ := run_zero h13 w
    refine ⟨D, _, @Bool.rec (fun _ => Value) z (.tuple #[z, .bool false]) ok, w, run_v ?_, .value _, ?_, hS, Fr.refl _ _ _⟩
    · unfold Instr.lookup
      rw [Sem.run_bind, hm, Result.andThen_ok]
      refine (hres _ _ _).trans ?_
      simp only [Sem.run_bind, hemp, ek, hck, Result.andThen_ok, e2, hz, Sem.run_pure]
      cases ok <;> rfl
    · cases ok
      · exact pl_rv 4 z hp
      · exact RV.tuple' (.cons (pl_rv 4 z hp) (.cons (.bool _) .nil))
  · subst e1
    simp only [Option.some.injEq, Prod.mk.injEq] at h12
    obtain ⟨rfl, rfl⟩ := h12
    refine ⟨D, _, @Bool.rec (fun _ => Value) u' (.tuple #[u', .bool true]) ok, w, run_v ?_, .value _, ?_, hS, Fr.refl _ _ _⟩
    · unfold Instr.lookup
      rw [Sem.run_bind, hm, Result.andThen_ok]
      refine (hres _ _ _).trans ?_
      simp only [Sem.run_bind, hemp, ek, hck, Result.andThen_ok, e2, Sem.run_pure]
      cases ok <;> rfl
    · cases ok
      · exact e3
      · exact RV.tuple' (.cons e3 (.cons (.bool _) .nil))

theorem mk_modify {α : Type} (l : List α) (i : Nat) (f : α → α) : (Array.mk l).modify i f = ⟨l.modify i f⟩ := by
  apply Array.ext_getElem?
  intro j
  rw [Array.getElem?_modify]
  simp [List.getElem?_modify]
  by_cases c : i = j <;> simp [c]
theorem mk_push {α : Type} (l : List α) (x : α) : (Array.mk l).push x = ⟨l ++ [x]⟩ := by simp

theorem update_run (hS : RS D S w) {t : TypeId} {ty : TypeId × TypeId} {m m' k k' x x' : Value} {r : Nat} {e : List MapEntry × Nat} {S' : St} (h1 : mapT (envH P H) t = some ty) (h2 : mref m = some r) (hm : RV D m m') (h3 : mapV S r = some e) (hk : RV D k k') (hx : RV D x x') (hkb : keyB (envH P H) false ty.1 k = true)
    (h : (ob (findV (envH P H) ty.1 k e.1) fun f => match f with
      | some (i, _) => gd (Instr.sameBits 10000 (((e.1[i]?).map (·.key)).getD k) k) (some (undef, putV S r (.map (e.1.modify i fun e => { e with key := k, val := x }) e.2)))
      | none => some (undef, putV S r (.map (e.1 ++ [{ key := k, val := x, born := e.2 }]) (Nat.succ e.2)))) = some (undef, S')) :
    ∃ w', (Instr.mapUpdate t m' k' x').run P w = .ok () w' ∧ RS D S' w' ∧ Fr D S w D S' w' := by
  obtain ⟨f, h11, h12⟩ := ob_some.1 h
  obtain ⟨es, c⟩ := e
  obtain ⟨l, hl, rfl⟩ := mref_ok h2 hm
  obtain ⟨l', res, r1, r2, r3, r4, r5⟩ := hS.mapB h3
  rw [hl] at r2; cases r2
  have hmt := run_under (mapT_ok h1) w
  obtain ⟨ek, hpk, hck⟩ := key_ok (P := P) hkb hk w
  subst ek
  have hgo := run_getObj (P := P) r3 (fun _ _ _ h => by cases h)
  rcases find_ok h11 r5 w with ⟨e1, e2⟩ | ⟨i, u, u', e, e1, e2, e3, e4, e5⟩
  · subst e1
    simp only [Option.some.injEq, Prod.mk.injEq, true_and] at h12
    subst h12
    have hr : RE D (es ++ [{ key := k', val := x, born := c }]) (res ++ [{ key := k', val := x', born := c }]) := r5.push rfl hpk rfl hx
    obtain ⟨q1, q2, q3⟩ := hS.putMap (P := P) (c2 := c + 1) r1 hl r3 r4 hr
    refine ⟨_, ?_, q2, q3⟩
    simp only [Instr.mapUpdate, Sem.run_bind, hmt, Result.andThen_ok, hgo, hck, e2, mk_push, q1]
  · subst e1
    simp only at h12
    obtain ⟨h13, h14⟩ := gd_some.1 h12
    simp only [Option.some.injEq, Prod.mk.injEq, true_and] at h14
    subst h14
    obtain ⟨e', g1, g2, g3, g4, g5⟩ := r5.at e4
    have hr : RE D (es.modify i fun e => { e with key := k', val := x }) (res.modify i fun e => { e with key := k', val := x' }) := r5.modify i _ _ (fun y y' hy hy' => by
      obtain ⟨j1, j2, j3, j4⟩ := r5.2 i y y' hy hy'
      exact ⟨rfl, hpk, j3, hx⟩)
    obtain ⟨q1, q2, q3⟩ := hS.putMap (P := P) (c2 := c) r1 hl r3 r4 hr
    refine ⟨_, ?_, q2, q3⟩
    have hkey : (((Array.mk res)[i]?).map (·.key)).getD k' = (((es[i]?).map (·.key)).getD k') := by
      rw [e4, show (Array.mk res)[i]? = some e' from by simpa using g1]
      simp [g2]
    have hst : (Instr.keyThatStays ((((Array.mk res)[i]?).map (·.key)).getD k') k').run P w = .ok k' w := by
      rw [hkey]
      simp only [Instr.keyThatStays, h13, if_true, Sem.run_pure]
    simp only [Instr.mapUpdate, Sem.run_bind, hmt, Result.andThen_ok, hgo, hck, e2, hst, mk_modify, q1]

theorem mapUpdate_ok (hT : RT D n tm a) (hS : RS D S w) {t : TypeId} {m k x : Operand} {v : Value} {S' : St} (h : heapV (envH P H) tm S (.mapUpdate t m k x) = some (v, S')) : Did P D S w ⟨dst, .mapUpdate t m k x, ty, pos, after, guard⟩ a v S' := by
  obtain ⟨mt, h1, h2⟩ := ob_some.1 h
  obtain ⟨mv, h3, h4⟩ := ob_some.1 h2
  obtain ⟨r, h5, h6⟩ := ob_some.1 h4
  obtain ⟨kv, h7, h8⟩ := ob_some.1 h6
  obtain ⟨xv, h9, h10⟩ := ob_some.1 h8
  obtain ⟨e, h11, h12⟩ := ob_some.1 h10
  obtain ⟨h13, h14⟩ := gd_some.1 h12
  have hv : v = undef := by
    obtain ⟨f, -, h15⟩ := ob_some.1 h14
    cases f with
    | none => simp at h15; exact h15.1.symm
    | some p => simp only at h15; have := (gd_some.1 h15).2; simp at this; exact this.1.symm
  subst hv
  obtain ⟨w', q1, q2, q3⟩ := update_run hS h1 h5 (evO_ok hT h3) h11 (evO_ok hT h7) (evO_ok hT h9) h13 h14
  refine ⟨D, .skip, undef, w', ?_, .skip, RV.tuple' RL.nil, q2, q3⟩
  simp only [execOp]
  simp [q1]
theorem insert_ok (hT : RT D n tm a) (hS : RS D S w) {t : TypeId} {m k x : Operand} {v : Value} {S' : St} (h : heapV (envH P H) tm S (.insert t m k x) = some (v, S')) : Did P D S w ⟨dst, .insert t m k x, ty, pos, after, guard⟩ a v S' := by
  obtain ⟨D', nx, r, w', q1, q2, q3, q4, q5⟩ := mapUpdate_ok (P := P) (dst := dst) (ty := ty) (pos := pos) (after := after) (guard := guard) hT hS (t := t) (m := m) (k := k) (x := x) h
  exact ⟨D', nx, r, w', q1, q2, q3, q4, q5⟩

theorem mapEntry_ok (hT : RT D n tm a) (hS : RS D S w) {t : TypeId} {m k : Operand} {v : Value} {S' : St} (h : heapV (envH P H) tm S (.mapEntry t m k) = some (v, S')) : Did P D S w ⟨dst, .mapEntry t m k, ty, pos, after, guard⟩ a v S' := by
  obtain ⟨mt, h1, h2⟩ := ob_some.1 h
  obtain ⟨mv, h3, h4⟩ := ob_some.1 h2
  obtain ⟨r, h5, h6⟩ := ob_some.1 h4
  obtain ⟨kv, h7, h8⟩ := ob_some.1 h6
  obtain ⟨⟨es, c⟩, h11, h12⟩ := ob_some.1 h8
  obtain ⟨hkb, h14⟩ := gd_some.1 h12
  obtain ⟨f, h15, h16⟩ := ob_some.1 h14
  obtain ⟨l, hl, em⟩ := mref_ok h5 (evO_ok hT h3)
  obtain ⟨l', res, r1, r2, r3, r4, r5⟩ := hS.mapB h11
  rw [hl] at r2; cases r2
  have hmt := run_under (mapT_ok h1) w
  obtain ⟨ek, hpk, hck⟩ := key_ok (P := P) hkb (evO_ok hT h7) w
  have hgo := run_getObj (P := P) r3 (fun _ _ _ h => by cases h)
  rcases find_ok h15 r5 w with ⟨e1, e2⟩ | ⟨i, u, u', e, e1, e2, e3, e4, e5⟩
  · subst e1
    simp only at h16
    obtain ⟨z, h17, h18⟩ := ob_some.1 h16
    simp only [Option.some.injEq, Prod.mk.injEq] at h18
    obtain ⟨rfl, rfl⟩ := h18
    obtain ⟨hz, hp⟩ := run_zero h17 w
    have hr : RE D (es ++ [{ key := kv, val := z, born := c }]) (res ++ [{ key := kv, val := z, born := c }]) := r5.push rfl hpk rfl (pl_rv 4 z hp)
    obtain ⟨q1, q2, q3⟩ := hS.putMap (P := P) (c2 := c + 1) r1 hl r3 r4 hr
    refine ⟨D, _, .tuple #[z, goInt c], _, run_v ?_, .value _, RV.tuple' (.cons (pl_rv 4 z hp) (.cons (.int _ _) .nil)), q2, q3⟩
    simp only [Instr.mapEntry, Sem.run_bind, hmt, Result.andThen_ok, em, ek, hgo, hck, e2, mk_push, q1, hz, Sem.run_pure]
  · subst e1
    simp only at h16
    obtain ⟨h17, h18⟩ := gd_some.1 h16
    simp only [Option.some.injEq, Prod.mk.injEq] at h18
    obtain ⟨rfl, rfl⟩ := h18
    obtain ⟨e', g1, g2, g3, g4, g5⟩ := r5.at e4
    have hr : RE D (es.modify i fun e => { e with key := kv }) (res.modify i fun e => { e with key := kv }) := r5.modify i _ _ (fun y y' hy hy' => by
      obtain ⟨j1, j2, j3, j4⟩ := r5.2 i y y' hy hy'
      exact ⟨rfl, hpk, j3, j4⟩)
    obtain ⟨q1, q2, q3⟩ := hS.putMap (P := P) (c2 := c) r1 hl r3 r4 hr
    have hat : (Array.mk res)[i]? = some e' := by simpa using g1
    have hborn : (goInt ((((Array.mk res)[i]?).map (·.born)).getD 0)) = goInt (((es[i]?).map (·.born)).getD 0) := by
      rw [e4, hat]; simp [g4]
    refine ⟨D, _, .tuple #[u', goInt ((((Array.mk res)[i]?).map (·.born)).getD 0)], _, run_v ?_, .value _, RV.tuple' (.cons e3 (.cons (by rw [hborn]; exact .int _ _) .nil)), q2, q3⟩
    have hkey : (((Array.mk res)[i]?).map (·.key)).getD kv = (((es[i]?).map (·.key)).getD kv) := by
      rw [e4, hat]
      simp [g2]
    have hst : (Instr.keyThatStays ((((Array.mk res)[i]?).map (·.key)).getD kv) kv).run P w = .ok kv w := by
      rw [hkey]
      simp only [Instr.keyThatStays, h17, if_true, Sem.run_pure]
    simp only [Instr.mapEntry, Sem.run_bind, hmt, Result.andThen_ok, em, ek, hgo, hck, e2, hst, mk_modify, q1, Sem.run_pure]
end
end Go.Ex

namespace Go.Ex
open Go

section
variable {D : Dm} {n : Nat} {tm : Tm} {a : Act} {P : Program} {S : St} {w : World} {H : Hooks}
variable {dst : Option Tmp} {ty : TypeId} {pos : String} {after : Array Edge} {guard : Option (Nat × Bool)}

theorem find_idx_ok {es es' : List MapEntry} (h : RE D es es') (b : Int) : es'.findIdx? (fun e => (e.born : Int) == b) = es.findIdx? (fun e => (e.born : Int) == b) := by
  induction es generalizing es' with
  | nil => rw [List.eq_nil_of_length_eq_zero h.1.symm]
  | cons e es ih =>
    cases es' with
    | nil => have := h.1; simp at this
    | cons e' es' =>
      have k := (h.2 0 e e' rfl rfl).2.2.1
      have h' : RE D es es' := ⟨by have := h.1; simpa using this, fun j x y hx hy => h.2 (j + 1) x y (by simpa using hx) (by simpa using hy)⟩
      rw [List.findIdx?_cons, List.findIdx?_cons, k, ih h']

theorem entryStore_ok (hT : RT D n tm a) (hS : RS D S w) {t : TypeId} {m s x : Operand} {v : Value} {S' : St} (h : heapV (envH P H) tm S (.entryStore t m s x) = some (v, S')) : Did P D S w ⟨dst, .entryStore t m s x, ty, pos, after, guard⟩ a v S' := by
  obtain ⟨mv, h3, h4⟩ := ob_some.1 h
  obtain ⟨r, h5, h6⟩ := ob_some.1 h4
  obtain ⟨sv, h7, h8⟩ := ob_some.1 h6
  obtain ⟨b, h9, h10⟩ := ob_some.1 h8
  obtain ⟨xv, h11, h12⟩ := ob_some.1 h10
  obtain ⟨⟨es, c⟩, h13, h14⟩ := ob_some.1 h12
  obtain ⟨i, h15, h16⟩ := ob_some.1 h14
  simp only [Option.some.injEq, Prod.mk.injEq] at h16
  obtain ⟨rfl, rfl⟩ := h16
  obtain ⟨l, hl, em⟩ := mref_ok h5 (evO_ok hT h3)
  obtain ⟨l', res, r1, r2, r3, r4, r5⟩ := hS.mapB h13
  rw [hl] at r2; cases r2
  obtain ⟨k, ek⟩ := intV_ok h9 (evO_ok hT h7)
  have hgo := run_getObj (P := P) r3 (fun _ _ _ h => by cases h)
  have hr : RE D (es.modify i fun e => { e with val := xv }) (res.modify i fun e => { e with val := a.eval x }) := r5.modify i _ _ (fun y y' hy hy' => by
    obtain ⟨j1, j2, j3, j4⟩ := r5.2 i y y' hy hy'
    exact ⟨j1, j2, j3, evO_ok hT h11⟩)
  obtain ⟨q1, q2, q3⟩ := hS.putMap (P := P) (c2 := c) r1 hl r3 r4 hr
  refine ⟨D, .skip, undef, _, ?_, .skip, RV.tuple' RL.nil, q2, q3⟩
  have hfi : (Array.mk res).findIdx? (fun e => (e.born : Int) == b) = some i :=
    Eq.trans (b := res.findIdx? (fun e => (e.born : Int) == b)) (by simp) ((find_idx_ok r5 b).trans h15)
  have : (Instr.entryStore t (a.eval m) (a.eval s) (a.eval x)).run P w = .ok () { w with heap := w.heap.setIfInBounds l.b (.map ⟨res.modify i fun e => { e with val := a.eval x }⟩ c) } := by
    simp only [Instr.entryStore, em, ek, Sem.run_bind, hgo, Result.andThen_ok, asInt, asIntOf, Sem.run_pure, hfi, mk_modify, q1]
  simp only [execOp]
  simp only [Sem.run_bind, this, Result.andThen_ok, Sem.run_pure]

theorem range_ok (hT : RT D n tm a) (hS : RS D S w) {t : TypeId} {x : Operand} {v : Value} {S' : St} (h : heapV (envH P H) tm S (.range t x) = some (v, S')) (hf : ∀ i, S.n ≤ i → i < S'.n → D i = none) : Did P D S w ⟨dst, .range t x, ty, pos, after, guard⟩ a v S' := by
  obtain ⟨d, h1, h2⟩ := ob_some.1 h
  obtain ⟨xv, h3, h4⟩ := ob_some.1 h2
  have hd := run_under h1 w
  have hx := evO_ok hT h3
  generalize hr : a.eval x = r at hx
  have fin : ∀ {o : VObj} {ob : Obj}, v = .pointer (some ⟨S.n, 0, none⟩) → S' = newV S o → RO (D.up S.n ⟨w.heap.size, 0, 0⟩) ⟨w.heap.size, 0, 0⟩ o ob → (Instr.range t r).run P w = .ok (.pointer (some ⟨w.heap.size, 0, none⟩)) (w.alloc ob) → Did P D S w ⟨dst, .range t x, ty, pos, after, guard⟩ a v S' := by
    intro o ob e1 e2 ho hrun
    subst e1 e2
    obtain ⟨q3, q4⟩ := hS.new (c := 0) (hf _ (Nat.le_refl _) (Nat.lt_succ_self _)) ho
    refine ⟨_, _, .pointer (some ⟨w.heap.size, 0, none⟩), _, ?_, .value _, .ptr S.n 0 _ (Dm.up_self _ _ _), q3, q4⟩
    simp only [execOp, hr]
    exact run_v hrun
  have hDn : D S.n = none := by
    refine hf _ (Nat.le_refl _) ?_
    split at h4
    · cases h4; exact Nat.lt_succ_self _
    · cases h4; exact Nat.lt_succ_self _
    · obtain ⟨e, -, h6⟩ := ob_some.1 h4; cases h6; exact Nat.lt_succ_self _
    · cases h4
  cases hx with
  | string s =>
    cases d with
    | string =>
      simp only [Option.some.injEq, Prod.mk.injEq] at h4
      refine fin (ob := .stringIter s 0) h4.1.symm h4.2.symm (.siter s 0 rfl) ?_
      simp [Instr.range, hd]
    | _ => simp at h4
  | nilMap =>
    cases d with
    | map k e =>
      simp only [Option.some.injEq, Prod.mk.injEq] at h4
      refine fin (ob := .mapIter none 0 ⟨[]⟩ 0) h4.1.symm h4.2.symm (.iterN 0 [] 0 rfl) ?_
      simp [Instr.range, hd]
    | _ => simp at h4
  | map i l hl =>
    cases d with
    | map k e =>
      simp only at h4
      obtain ⟨⟨es, c⟩, h5, h6⟩ := ob_some.1 h4
      simp only [Option.some.injEq, Prod.mk.injEq] at h6
      obtain ⟨l', res, r1, r2, r3, r4, r5⟩ := hS.mapB h5
      rw [hl] at r2; cases r2
      have hgo := run_getObj (P := P) r3 (fun _ _ _ h => by cases h)
      refine fin (ob := .mapIter (some l.b) c ⟨[]⟩ c) h6.1.symm h6.2.symm (.iter i l c [] c rfl (Dm.le_up hDn _ _ hl)) ?_
      simp [Instr.range, hd, hgo]
    | _ => simp at h4
  | _ => cases d <;> simp at h4

/-- a walk's block -/
theorem RS.get (h : RS D S w) {i : Nat} {o : VObj} (hi : S.h.get i = some o) : ∃ l ob, D i = some l ∧ w.heap[l.b]? = some ob ∧ RO D l o ob := h.rh.blk i o hi

theorem filter_ok {es es' : List MapEntry} (h : RE D es es') (p : Nat → Bool) : RE D (es.filter fun e => p e.born) (es'.filter fun e => p e.born) := by
  induction es generalizing es' with
  | nil => rw [List.eq_nil_of_length_eq_zero h.1.symm]; exact ⟨rfl, fun i e e' h => by simp at h⟩
  | cons e es ih =>
    cases es' with
    | nil => have := h.1; simp at this
    | cons e' es' =>
      obtain ⟨k1, k2, k3, k4⟩ := h.2 0 e e' rfl rfl
      have h' : RE D es es' := ⟨by have := h.1; simpa using this, fun j x y hx hy => h.2 (j + 1) x y (by simpa using hx) (by simpa using hy)⟩
      have ih := ih h'
      simp only [List.filter_cons, k3]
      cases p e.born with
      | false => exact ih
      | true =>
        refine ⟨by simp [ih.1], fun j x y hx hy => ?_⟩
        cases j with
        | zero => simp at hx hy; subst hx hy; exact ⟨k1, k2, k3, k4⟩
        | succ j => simp at hx hy; exact ih.2 j x y hx hy
theorem all_ok {es es' : List MapEntry} (h : RE D es es') (p : Nat → Bool) : (es'.all fun e => p e.born) = es.all fun e => p e.born := by
  induction es generalizing es' with
  | nil => rw [List.eq_nil_of_length_eq_zero h.1.symm]
  | cons e es ih =>
    cases es' with
    | nil => have := h.1; simp at this
    | cons e' es' =>
      obtain ⟨k1, k2, k3, k4⟩ := h.2 0 e e' rfl rfl
      have h' : RE D es es' := ⟨by have := h.1; simpa using this, fun j x y hx hy => h.2 (j + 1) x y (by simpa using hx) (by simpa using hy)⟩
      simp only [List.all_cons, k3, ih h']
theorem find_born_ok {es es' : List MapEntry} (h : RE D es es') {b : Nat} {x : MapEntry} (hx : es.find? (fun x => x.born == b) = some x) : ∃ x', es'.find? (fun x => x.born == b) = some x' ∧ x'.key = x.key ∧ pl 4 x.key = true ∧ RV D x.val x'.val := by
  induction es generalizing es' with
  | nil => simp at hx
  | cons e es ih =>
    cases es' with
    | nil => have := h.1; simp at this
    | cons e' es' =>
      obtain ⟨k1, k2, k3, k4⟩ := h.2 0 e e' rfl rfl
      have h' : RE D es es' := ⟨by have := h.1; simpa using this, fun j x y hx hy => h.2 (j + 1) x y (by simpa using hx) (by simpa using hy)⟩
      rw [List.find?_cons] at hx ⊢
      rw [k3]
      cases c : e.born == b with
      | true => rw [c] at hx; simp at hx; subst hx; exact ⟨e', rfl, k1, k2, k4⟩
      | false => rw [c] at hx; exact ih h' hx

theorem next_ok (hT : RT D n tm a) (hS : RS D S w) {it : Operand} {isS : Bool} {v : Value} {S' : St} (h : heapV (envH P H) tm S (.next it isS) = some (v, S')) : Did P D S w ⟨dst, .next it isS, ty, pos, after, guard⟩ a v S' := by
  obtain ⟨iv, h1, h2⟩ := ob_some.1 h
  obtain ⟨p, h3, h4⟩ := ob_some.1 h2
  obtain ⟨h5, h6⟩ := gd_some.1 h4
  obtain ⟨o, h7, h8⟩ := ob_some.1 h6
  have hp0 := Nat.eq_of_beq_eq_true h5
  obtain ⟨l, hl, er, -⟩ := adr_ok h3 (evO_ok hT h1)
  obtain ⟨l', ob, g1, g2, g3⟩ := hS.get h7
  rw [hl] at g1; cases g1
  have fin : ∀ {r : Value} {w' : World} {D' : Dm}, (Instr.next (a.eval it) isS ty).run P w = .ok r w' → RV D' v r → RS D' S' w' → Fr D S w D' S' w' → Did P D S w ⟨dst, .next it isS, ty, pos, after, guard⟩ a v S' := fun q1 q2 q3 q4 => ⟨_, _, _, _, run_v q1, .value _, q2, q3, q4⟩
  cases g3 with
  | siter s ps hsh =>
    cases isS with
    | false => simp at h8
    | true =>
      have hgo := run_getObj (P := P) g2 (fun _ _ _ h => by cases h)
      simp only at h8
      rw [brec] at h8
      cases c : Nat.blt ps s.size with
      | false =>
        rw [c] at h8
        simp only [cond_false, Option.some.injEq, Prod.mk.injEq] at h8
        obtain ⟨rfl, rfl⟩ := h8
        have hc : ¬ ps < s.size := fun h => by rw [show Nat.blt ps s.size = true from Nat.ble_eq_true_of_le h] at c; cases c
        refine fin (r := .tuple #[.bool false]) (w' := w) (D' := D) ?_ (RV.tuple' (.cons (.bool _) .nil)) hS (Fr.refl _ _ _)
        simp [Instr.next, er, hp0, hsh, hgo, hc]
      | true =>
        rw [c] at h8
        simp only [cond_true, Option.some.injEq, Prod.mk.injEq] at h8
        obtain ⟨rfl, rfl⟩ := h8
        have hc : ps < s.size := Nat.le_of_ble_eq_true c
        obtain ⟨q1, q2⟩ := hS.put h7 hl (wr_setObj g2 (.stringIter s (ps + (Utf8.decode s ps).2))) (.siter s (ps + (Utf8.decode s ps).2) hsh)
        refine fin (r := .tuple #[.bool true, goInt ps, .int .i32 (Utf8.decode s ps).1]) ?_ (RV.tuple' (.cons (.bool _) (.cons (.int _ _) (.cons (.int _ _) .nil)))) q1 q2
        have hset := run_setObj (P := P) (o' := .stringIter s (ps + (Utf8.decode s ps).2)) g2 (fun _ _ _ h => by cases h)
        simp [Instr.next, er, hp0, hsh, hgo, hc, hset]
  | iterN since seen st hsh =>
    cases isS with
    | true => simp at h8
    | false =>
      have hgo := run_getObj (P := P) g2 (fun _ _ _ h => by cases h)
      simp only [Option.some.injEq, Prod.mk.injEq] at h8
      obtain ⟨rfl, rfl⟩ := h8
      refine fin (r := .tuple #[.bool false]) (w' := w) (D' := D) ?_ (RV.tuple' (.cons (.bool _) .nil)) hS (Fr.refl _ _ _)
      simp [Instr.next, er, hp0, hsh, hgo]
  | iter m lm since seen st hsh hm =>
    cases isS with
    | true => simp at h8
    | false =>
      have hgo := run_getObj (P := P) g2 (fun _ _ _ h => by cases h)
      simp only at h8
      obtain ⟨⟨es, c⟩, h9, h10⟩ := ob_some.1 h8
      obtain ⟨h11, h12⟩ := gd_some.1 h10
      obtain ⟨l2, res, r1, r2, r3, r4, r5⟩ := hS.mapB h9
      rw [hm] at r2; cases r2
      have hgm := run_getObj (P := P) r3 (fun _ _ _ h => by cases h)
      have hok : (!seen.isEmpty && !res.isEmpty && res.all fun x => decide (x.born ≥ st)) = false := by
        have e1 : res.isEmpty = es.isEmpty := by
          have := r5.1
          cases res <;> cases es <;> simp_all
        have e2 := all_ok r5 (fun b => decide (b ≥ st))
        have e3 : (es.all fun x => decide (x.born ≥ st)) = es.all fun x => Nat.ble st x.born := by
          congr 1; funext x
          cases q : Nat.ble st x.born with
          | true => exact decide_eq_true (Nat.le_of_ble_eq_true q)
          | false => exact decide_eq_false (fun h => by rw [Nat.ble_eq_true_of_le h] at q; cases q)
        rw [e1, e2, e3]
        simp only [Bool.or_eq_true, Bool.not_eq_true'] at h11
        rcases h11 with (h | h) | h <;> simp [h]
      have hleft := filter_ok r5 (fun b => !seen.contains b)
      simp only at h12
      generalize hL : es.filter (fun x => !seen.contains x.born) = left at h12 hleft
      generalize hL' : res.filter (fun x => !seen.contains x.born) = left' at hleft
      match left, h12, hleft with
      | [], h12, hleft =>
        simp only [Option.some.injEq, Prod.mk.injEq] at h12
        obtain ⟨rfl, rfl⟩ := h12
        have e0 : left' = [] := List.eq_nil_of_length_eq_zero hleft.1.symm
        subst e0
        refine fin (r := .tuple #[.bool false]) (w' := w) (D' := D) ?_ (RV.tuple' (.cons (.bool _) .nil)) hS (Fr.refl _ _ _)
        have hfl : (Array.mk res).filter (fun e => !(Array.mk seen).contains e.born) = ⟨[]⟩ := by
          rw [← hL']; simp
        have hok' : (!(Array.mk seen).isEmpty && !(Array.mk res).isEmpty && (Array.mk res).all fun x => decide (x.born ≥ st)) = false := by
          rw [← hok]; simp
        unfold Instr.next
        simp only [er, hp0, hsh, Nat.add_zero, Sem.run_bind, hgo, Result.andThen_ok, hgm, hok', Bool.false_eq_true, if_false, hfl]
        simp [Question.forced]
      | [x], h12, hleft =>
        obtain ⟨x', e0, k1, k2, k3, k4⟩ : ∃ x', left' = [x'] ∧ x'.key = x.key ∧ pl 4 x.key = true ∧ x'.born = x.born ∧ RV D x.val x'.val := by
          match left', hleft with
          | [x'], hl => obtain ⟨a1, a2, a3, a4⟩ := hl.2 0 x x' rfl rfl; exact ⟨x', rfl, a1, a2, a3, a4⟩
          | [], hl => have := hl.1; simp at this
          | _ :: _ :: _, hl => have := hl.1; simp at this
        subst e0
        simp only at h12
        obtain ⟨h13, h14⟩ := gd_some.1 h12
        simp only [Option.some.injEq, Prod.mk.injEq] at h14
        obtain ⟨rfl, rfl⟩ := h14
        have hb : x.born < since := Nat.le_of_ble_eq_true h13
        obtain ⟨q1, q2⟩ := hS.put h7 hl (wr_setObj g2 (.mapIter (some lm.b) since ⟨seen ++ [x.born]⟩ c)) (.iter m lm since (seen ++ [x.born]) c hsh hm)
        refine fin (r := .tuple #[.bool true, x.key, x'.val]) ?_ (RV.tuple' (.cons (.bool _) (.cons (pl_rv 4 _ k2) (.cons k4 .nil)))) q1 q2
        have hfl : (Array.mk res).filter (fun e => !(Array.mk seen).contains e.born) = ⟨[x']⟩ := by
          rw [← hL']; simp
        have hok' : (!(Array.mk seen).isEmpty && !(Array.mk res).isEmpty && (Array.mk res).all fun x => decide (x.born ≥ st)) = false := by
          rw [← hok]; simp
        have hset := run_setObj (P := P) (o' := .mapIter (some lm.b) since ⟨seen ++ [x.born]⟩ c) g2 (fun _ _ _ h => by cases h)
        have f1 : (Array.mk [x']).filter (fun e => decide (e.born < since)) = ⟨[x']⟩ := by simp [k3, hb]
        have f2 : (Array.mk [x']).filter (fun e => decide (e.born ≥ since)) = ⟨[]⟩ := by simp [k3, Nat.not_le.2 hb]
        unfold Instr.next
        simp only [er, hp0, hsh, Nat.add_zero, Sem.run_bind, hgo, Result.andThen_ok, hgm, hok', Bool.false_eq_true, if_false, hfl, f1, f2]
        simp [Question.forced, k1, k3, hset]
      | _ :: _ :: _, h12, _ => simp at h12
  | row => simp at h8
  | map => simp at h8
  | dfrN => simp at h8
  | dfrS => simp at h8
  | loop => simp at h8
theorem entry_ok (hT : RT D n tm a) (hS : RS D S w) {it : Operand} {v : Value} {S' : St} (h : heapV (envH P H) tm S (.entry it) = some (v, S')) : Did P D S w ⟨dst, .entry it, ty, pos, after, guard⟩ a v S' := by
  obtain ⟨iv, h1, h2⟩ := ob_some.1 h
  obtain ⟨p, h3, h4⟩ := ob_some.1 h2
  obtain ⟨h5, h6⟩ := gd_some.1 h4
  obtain ⟨o, h7, h8⟩ := ob_some.1 h6
  have hp0 := Nat.eq_of_beq_eq_true h5
  obtain ⟨l, hl, er, -⟩ := adr_ok h3 (evO_ok hT h1)
  obtain ⟨l', ob, g1, g2, g3⟩ := hS.get h7
  rw [hl] at g1; cases g1
  cases g3 with
  | iter m lm since seen st hsh hm =>
    have hgo := run_getObj (P := P) g2 (fun _ _ _ h => by cases h)
    simp only at h8
    obtain ⟨⟨es, c⟩, h9, h10⟩ := ob_some.1 h8
    obtain ⟨h11, h12⟩ := gd_some.1 h10
    obtain ⟨b, h13, h14⟩ := ob_some.1 h12
    obtain ⟨x, h15, h16⟩ := ob_some.1 h14
    simp only [Option.some.injEq, Prod.mk.injEq] at h16
    obtain ⟨rfl, rfl⟩ := h16
    obtain ⟨l2, res, r1, r2, r3, r4, r5⟩ := hS.mapB h9
    rw [hm] at r2; cases r2
    have hgm := run_getObj (P := P) r3 (fun _ _ _ h => by cases h)
    obtain ⟨x', k1, k2, k3, k4⟩ := find_born_ok r5 h15
    have hc : c = st := Nat.eq_of_beq_eq_true h11
    refine ⟨D, _, .tuple #[x.key, x'.val], w, run_v ?_, .value _, RV.tuple' (.cons (pl_rv 4 _ k3) (.cons k4 .nil)), hS, Fr.refl _ _ _⟩
    have hback : (Array.mk seen).back? = some b := by simpa [Array.back?, List.getLast?_eq_getElem?] using h13
    have hfind : (Array.mk res).find? (fun x => x.born == b) = some x' := by simpa using k1
    simp [Instr.entry, er, hp0, hsh, hgo, hgm, hback, hc, hfind, k2]
  | _ => simp at h8
end
end Go.Ex
