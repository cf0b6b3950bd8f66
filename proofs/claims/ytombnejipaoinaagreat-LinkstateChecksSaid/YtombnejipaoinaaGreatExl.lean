/-
  The evaluator's built-in functions over memory.
-/
/-
  The evaluator's operations that touch memory: all of them.
-/
import Derived.Test.YtombnejipaoinaaGreatExj
import Derived.Test.YtombnejipaoinaaGreatExh
namespace Go.Ex
open Go

section
variable {D : Dm} {n : Nat} {tm : Tm} {a : Act} {P : Program} {S : St} {w : World} {H : Hooks}
variable {dst : Option Tmp} {ty : TypeId} {pos : String} {after : Array Edge} {guard : Option (Nat × Bool)}

theorem rv_addr {D' : Dm} {base : Option Addr} {len cap : Nat} {r : Value} (h : RV D' (.slice base len cap) r) : ∃ rb rc, r = .slice rb len rc ∧ (rb.isSome = true ∨ rb = none) ∧
    (cap < EMP → (base = none ∧ rb = none ∧ len = 0 ∧ cap = 0 ∧ rc = 0) ∨ ∃ i off l, base = some ⟨i, off, none⟩ ∧ D' i = some l ∧ rb = some ⟨l.b, off + l.sh, none⟩ ∧
      ((cap < BIG ∧ rc = cap) ∨ ∃ s mc, cap = unk mc s ∧ 0 < s ∧ s < K20 ∧ len ≤ mc ∧ mc ≤ rc ∧ mc ≤ 1000000000 ∧ off + l.sh + rc * s ≤ l.c)) := by
  cases h with
  | nilSlc => exact ⟨none, 0, rfl, .inr rfl, fun _ => .inl ⟨rfl, rfl, rfl, rfl, rfl⟩⟩
  | slc i off l n c hl hc => exact ⟨_, _, rfl, .inl rfl, fun _ => .inr ⟨i, off, l, rfl, hl, rfl, .inl ⟨hc, rfl⟩⟩⟩
  | slcU i off l n s mc rc hl p1 p0 p2 p4 p5 p3 => exact ⟨_, _, rfl, .inl rfl, fun _ => .inr ⟨i, off, l, rfl, hl, rfl, .inr ⟨s, mc, rfl, p1, p0, p2, p4, p5, p3⟩⟩⟩
  | slcE x c => exact ⟨x, c, rfl, by cases x <;> simp, fun h => absurd h (Nat.lt_irrefl _)⟩

theorem setX_nil_eq {l : List Value} {o : Nat} {r : List Value} (h : setX l o [] = some r) : r = l := by
  obtain ⟨h1, h2, h3⟩ := setX_ok h
  apply List.ext_getElem?
  intro i
  rw [h3, if_neg (by simp)]

set_option maxHeartbeats 1000000 in
/-- append -/
theorem appendV_ok (hS : RS D S w) {at_ : Array TypeId} {t t2 : TypeId} {s x s' x' v : Value} {S' : St} (h0 : at_[0]? = some t) (h1 : at_[1]? = some t2) (h : appendV (envH P H) S t t2 s x = some (v, S')) (hs : RV D s s') (hx : RV D x x') (hf : ∀ i, S.n ≤ i → i < S'.n → D i = none) :
    ∃ D' r w', (Builtin.append_ at_ ty #[s', x']).run P w = .ok r w' ∧ RV D' v r ∧ RS D' S' w' ∧ Fr D S w D' S' w' := by
  obtain ⟨e, h2, h3⟩ := ob_some.1 h
  obtain ⟨ti, h4, h5⟩ := ob_some.1 h3
  obtain ⟨z, h6, h7⟩ := ob_some.1 h5
  obtain ⟨h8, h9⟩ := gd_some.1 h7
  simp only [Bool.and_eq_true] at h8
  obtain ⟨⟨⟨b1, b2⟩, b3⟩, b4⟩ := h8
  have he : 0 < e.2 := Nat.le_of_ble_eq_true b1
  have hk : e.2 < K20 := Nat.le_of_ble_eq_true b2
  have hbytes : ti.i.bytes ≤ 100000 := Nat.le_of_ble_eq_true b3
  have hzs : z.cells.size = e.2 := by simpa using Nat.eq_of_beq_eq_true b4
  obtain ⟨hz, hp⟩ := run_zero h6 w
  obtain ⟨ku, ks⟩ := run_elS h2
  cases s with
  | slice base len cap =>
    simp only at h9
    obtain ⟨h10, h11⟩ := gd_some.1 h9
    have hcap : cap < EMP := Nat.le_of_ble_eq_true h10
    obtain ⟨new, h12, h13⟩ := ob_some.1 h11
    obtain ⟨h14, h15⟩ := gd_some.1 h13
    simp only [Bool.and_eq_true] at h14
    obtain ⟨⟨⟨c1, c2⟩, c3⟩, c4⟩ := h14
    obtain ⟨d, m, l', hd, hrl, hlen, hint, hnint⟩ := newCells_ok (P := P) hS h12 hx
    have hdiv : Nat.div new.length e.2 = m := by
      show new.length / e.2 = m
      rw [hlen, Nat.mul_div_cancel _ he]
    have hlb : new.length ≤ 100000 := Nat.le_of_ble_eq_true c3
    have hm100 : m ≤ 100000 := by
      have : m ≤ m * e.2 := Nat.le_mul_of_pos_right _ he
      omega
    have hlen100 : len ≤ 100000 := Nat.le_of_ble_eq_true c4
    rw [hdiv] at h15
    obtain ⟨rb, rc, rfl, -, hcase⟩ := rv_addr hs
    have hcase := hcase hcap
    have RUN := run_append (ty := ty) (w := w) (base := rb) (len := len) (rc := rc) (m := m) (y := x') (l' := l') h0 h1 ku ks (typ_ok h4) hbytes h6 hzs he hd
      (fun hi => by
        obtain ⟨k, ti', z', e1, e2, -, -, e3, e4, -⟩ := hint hi
        rw [h6] at e3; cases e3
        exact ⟨k, e1, e2, e4⟩)
      (fun hi w' hw' => hnint hi w' (by rcases hw' with rfl | rfl <;> rfl)) ⟨hlen100, hm100⟩
    obtain ⟨RUN1, RUN2⟩ := RUN
    rw [brec] at h15
    simp only [Nat.add_eq] at h15
    cases hc : Nat.ble (len + m) (mcV cap) with
    | true =>
      rw [hc] at h15
      simp only [cond_true] at h15
      have hle : len + m ≤ mcV cap := Nat.le_of_ble_eq_true hc
      have hlerc : len + m ≤ rc := by
        rcases hcase with ⟨-, -, e1, e2, e3⟩ | ⟨i, off, l, -, -, -, ⟨e1, e2⟩ | ⟨s, mc, e1, p1, p0, p2, p4, -, -⟩⟩
        · subst e2; rw [mcV_known (by decide)] at hle; omega
        · rw [mcV_known e1] at hle; omega
        · rw [e1, mcV_unk p0] at hle; omega
      have RUN1 := RUN1 hlerc
      cases new with
      | nil =>
        simp only [Option.some.injEq, Prod.mk.injEq] at h15
        obtain ⟨rfl, rfl⟩ := h15
        have e0 := hrl.nil_inv
        subst e0
        have hm0 : m = 0 := by
          have h : 0 = m * e.2 := hlen
          rcases Nat.mul_eq_zero.1 h.symm with h | h
          · exact h
          · omega
        subst hm0
        refine ⟨D, .slice rb len rc, w, ?_, hs, hS, Fr.refl _ _ _⟩
        rw [RUN1]
        cases rb <;> rfl
      | cons x0 xs =>
        simp only at h15
        rcases hcase with ⟨e0, -⟩ | ⟨i, off, l, e0, hl, e1, hk2⟩
        · subst e0; simp at h15
        · subst e0 e1
          simp only at h15
          obtain ⟨⟨cs, el⟩, q1, q2⟩ := ob_some.1 h15
          obtain ⟨-, q3⟩ := gd_some.1 q2
          obtain ⟨cs', q4, q5⟩ := ob_some.1 q3
          simp only [Option.some.injEq, Prod.mk.injEq] at q5
          obtain ⟨rfl, rfl⟩ := q5
          obtain ⟨w', g1, g2, g3⟩ := hS.putRow (P := P) q1 hl q4 hrl c1
          refine ⟨D, .slice (some ⟨l.b, off + l.sh, none⟩) (len + m) rc, w', ?_, ?_, g2, g3⟩
          · rw [RUN1]
            simp only [add_none]
            rw [show off + l.sh + len * e.2 = off + len * e.2 + l.sh by omega]
            simp only [Nat.mul_eq] at g1
            rw [g1]; rfl
          · rcases hk2 with ⟨e1, e2⟩ | ⟨s, mc, e1, p1, p0, p2, p4, p5, p3⟩
            · subst e2; exact .slc i off l _ _ hl e1
            · subst e1
              rw [mcV_unk p0] at hle
              exact .slcU i off l _ s mc rc hl p1 p0 hle p4 p5 p3
    | false =>
      rw [hc] at h15
      simp only [cond_false] at h15
      have hnle : ¬ len + m ≤ mcV cap := fun h => by rw [Nat.ble_eq_true_of_le h] at hc; cases hc
      obtain ⟨old, h16, h17⟩ := ob_some.1 h15
      obtain ⟨m0, ol, o1, o2, o3⟩ := cellsOf_ok (P := P) hS h16 hs
      have hm0 : m0 = len := by
        have := (o1 w rfl).1
        simp [Builtin.lenOf] at this
        exact this.symm
      subst hm0
      have hold := (o1 w.drew rfl).2
      have hDn : D S.n = none := by
        refine hf _ (Nat.le_refl _) ?_
        rw [brec] at h17
        cases q : Nat.ble BIG cap with
        | false => rw [q] at h17; simp only [cond_false, Option.some.injEq, Prod.mk.injEq] at h17; rw [← h17.2]; exact Nat.lt_succ_self _
        | true =>
          rw [q] at h17
          simp only [cond_true] at h17
          cases base with
          | none => simp at h17
          | some a => simp only at h17; obtain ⟨r0, -, h17⟩ := ob_some.1 h17; have := (gd_some.1 h17).2; simp only [Option.some.injEq, Prod.mk.injEq] at this; rw [← this.2]; exact Nat.lt_succ_self _
      have hcl : (old ++ new).length = (m0 + m) * e.2 := by rw [List.length_append, o3, hlen, Nat.add_mul]
      -- the row made anew
      have NEW : rc < m0 + m → ∃ D' nc, (Builtin.append_ at_ ty #[.slice rb m0 rc, x']).run P w = .ok (.slice (some ⟨w.heap.size, 0, none⟩) (m0 + m) nc) (w.drew.alloc (.cells ⟨ol ++ l' ++ rep z.cells.toList (nc - (m0 + m))⟩ e.1)) ∧
          RV D' (.slice (some ⟨S.n, 0, none⟩) (m0 + m) (unk (m0 + m) e.2)) (.slice (some ⟨w.heap.size, 0, none⟩) (m0 + m) nc) ∧ RS D' (newV S (.row (old ++ new) e.1)) (w.drew.alloc (.cells ⟨ol ++ l' ++ rep z.cells.toList (nc - (m0 + m))⟩ e.1)) ∧ Fr D S w D' (newV S (.row (old ++ new) e.1)) (w.drew.alloc (.cells ⟨ol ++ l' ++ rep z.cells.toList (nc - (m0 + m))⟩ e.1)) := by
        intro hlt
        obtain ⟨nc, n1, n2⟩ := RUN2 hlt ol hold
        have hrl2 : RL D (old ++ new) (ol ++ l') := o2.append hrl
        obtain ⟨q1, q2, q3⟩ := hS.drew.newRow hDn (cs := old ++ new) (rl := ol ++ l' ++ rep z.cells.toList (nc - (m0 + m))) e.1 (by simp only [List.length_append]; have := hrl2.1; simp only [List.length_append] at this; omega) (by rw [hrl2.1, List.take_left']; exact hrl2; rfl) rfl
        have hsz : (ol ++ l' ++ rep z.cells.toList (nc - (m0 + m))).length = nc * e.2 := by
          rw [List.length_append, ← hrl2.1, hcl, rep_len, Array.length_toList, hzs, ← Nat.add_mul]; congr 1; omega
        refine ⟨_, nc, n2, ?_, q2, (Fr.drew D S w).trans q3⟩
        have := RV.slcU (D := D.up S.n ⟨w.heap.size, 0, (ol ++ l' ++ rep z.cells.toList (nc - (m0 + m))).length⟩) S.n 0 _ (m0 + m) e.2 (m0 + m) nc (Dm.up_self _ _ _) he hk (Nat.le_refl _) n1 (by omega) (by simp only [hsz]; omega)
        exact this
      rw [brec] at h17
      cases q : Nat.ble BIG cap with
      | false =>
        rw [q] at h17
        simp only [cond_false, Option.some.injEq, Prod.mk.injEq] at h17
        obtain ⟨rfl, rfl⟩ := h17
        have hcb : cap < BIG := by
          rcases Nat.lt_or_ge cap BIG with h | h
          · exact h
          · rw [Nat.ble_eq_true_of_le h] at q; cases q
        have hlt : rc < m0 + m := by
          rw [mcV_known hcb] at hnle
          rcases hcase with ⟨-, -, e1, e2, e3⟩ | ⟨i, off, l, -, -, -, ⟨e1, e2⟩ | ⟨s, mc, e1, -⟩⟩
          · omega
          · omega
          · rw [e1] at hcb; exact absurd hcb (Nat.not_lt_of_le (unk_ge _ _))
        obtain ⟨D', nc, n1, n2, n3, n4⟩ := NEW hlt
        exact ⟨D', _, _, n1, n2, n3, n4⟩
      | true =>
        rw [q] at h17
        simp only [cond_true] at h17
        have hge := Nat.le_of_ble_eq_true q
        rcases hcase with ⟨-, -, -, e2, -⟩ | ⟨i, off, l, e0, hl, e1, ⟨e2, -⟩ | ⟨s, mc, e2, p1, p0, p2, p4, p5, p3⟩⟩
        · subst e2; exact absurd hge (by decide)
        · omega
        · subst e0 e1 e2
          simp only at h17
          obtain ⟨⟨cs0, el0⟩, hrow, h17⟩ := ob_some.1 h17
          obtain ⟨r1, r2⟩ := gd_some.1 h17
          simp only [Bool.and_eq_true] at r1
          simp only [Option.some.injEq, Prod.mk.injEq] at r2
          obtain ⟨rfl, rfl⟩ := r2
          rw [scV_unk p0] at r1
          have es : s = e.2 := Nat.eq_of_beq_eq_true r1.1
          have eel : el0 = e.1 := Nat.eq_of_beq_eq_true r1.2
          subst es eel
          by_cases hfit : m0 + m ≤ rc
          · have h16' : takeX cs0 off (m0 * e.2) = some old := by
              obtain ⟨x, x1, x2⟩ := ob_some.1 h16
              rw [hrow] at x1; cases x1
              exact x2
            obtain ⟨l1, rcs, lo, hi, k0, k1, k2, k3, k4, k5, k6⟩ := hS.row hrow
            rw [hl] at k1; cases k1
            have hfit2 : (m0 + m) * e.2 ≤ rc * e.2 := Nat.mul_le_mul_right _ hfit
            have hadd : (m0 + m) * e.2 = m0 * e.2 + m * e.2 := Nat.add_mul ..
            have hll := hrl.1
            obtain ⟨w', rc2, g1, g2, g3, g4⟩ := run_storeC (P := P) l' (off + l.sh + m0 * e.2) 0 rcs w k2 k6 (by omega) (hrl.one c1)
            obtain ⟨t1, t2⟩ := takeX_ok (D := D) h16'
            have hlo := o2.1
            have ro : RO (D.up S.n ⟨l.b, off + l.sh, l.c⟩) ⟨l.b, off + l.sh, l.c⟩ (.row (old ++ new) e.1) (.cells rc2 e.1 (lo, hi)) := by
              refine .row _ _ rc2 lo hi (by rw [g3]; exact k3) (by rw [g3, hcl]; simp only; omega) (fun j x hj => ?_) (by rw [g3]; exact k6)
              simp only
              rw [g4]
              rcases Nat.lt_or_ge j old.length with c | c
              · rw [List.getElem?_append_left c] at hj
                rw [if_neg (by omega)]
                have h1 := t2 j x hj
                obtain ⟨y, y1, y2⟩ := k5.get h1
                have hlt : off + j < cs0.length := (List.getElem?_eq_some_iff.1 h1).1
                rw [List.getElem?_take_of_lt hlt, List.getElem?_drop, Array.getElem?_toList] at y1
                exact ⟨y, by rw [show j + (off + l.sh) = l.sh + (off + j) by omega]; exact y1, y2.mono (Dm.le_up hDn)⟩
              · rw [List.getElem?_append_right c] at hj
                obtain ⟨y, y1, y2⟩ := hrl.get hj
                have hlt : j - old.length < new.length := (List.getElem?_eq_some_iff.1 hj).1
                rw [if_pos (by omega)]
                exact ⟨y, by rw [show j + (off + l.sh) - (off + l.sh + m0 * e.2 + 0) = j - old.length by omega]; exact y1, y2.mono (Dm.le_up hDn)⟩
            obtain ⟨v1, v2⟩ := hS.moved hDn k0 hl (l' := ⟨l.b, off + l.sh, l.c⟩) g2 rfl ro
            refine ⟨D.up S.n ⟨l.b, off + l.sh, l.c⟩, .slice (some ⟨l.b, off + l.sh, none⟩) (m0 + m) rc, w', ?_, ?_, v1, v2⟩
            · rw [RUN1 hfit]
              simp only [add_none]
              rw [g1]; rfl
            · have := RV.slcU (D := D.up S.n ⟨l.b, off + l.sh, l.c⟩) S.n 0 _ (m0 + m) e.2 (m0 + m) rc (Dm.up_self _ _ _) he hk (Nat.le_refl _) hfit (by omega) (by simp only; omega)
              simpa using this
          · obtain ⟨D', nc, n1, n2, n3, n4⟩ := NEW (by omega)
            obtain ⟨k1, k2⟩ := n3.kill i
            exact ⟨D', _, _, n1, n2, k1, n4.trans k2⟩
  | _ => simp at h9
end
end Go.Ex

namespace Go.Ex
open Go

theorem RE.eraseIdx {D : Dm} {es es' : List MapEntry} (h : RE D es es') (i : Nat) : RE D (es.eraseIdx i) (es'.eraseIdx i) := by
  refine ⟨by rw [List.length_eraseIdx, List.length_eraseIdx, h.1], fun j e e' h1 h2 => ?_⟩
  rw [List.getElem?_eraseIdx] at h1 h2
  split at h1
  · rename_i c; rw [if_pos c] at h2; exact h.2 j e e' h1 h2
  · rename_i c; rw [if_neg c] at h2; exact h.2 (j + 1) e e' h1 h2

section
variable {D : Dm} {n : Nat} {tm : Tm} {a : Act} {P : Program} {S : St} {w : World} {H : Hooks}
variable {dst : Option Tmp} {ty : TypeId} {pos : String} {after : Array Edge} {guard : Option (Nat × Bool)}

theorem call_builtin {b : Builtin} {args : Array Operand} {at_ : Array TypeId} {rs : List Value} (hr : args.toList.map a.eval = rs) {s : Sem Value} (e : ∀ cs, builtin b at_ ty cs rs.toArray = (do pure (Next.value (← s)))) {r : Value} {w' : World} (h : s.run P w = .ok r w') : (execOp a.eval ⟨dst, .call ⟨.builtin b, args, at_⟩, ty, pos, after, guard⟩).run P w = .ok (.value r) w' := by
  obtain ⟨args⟩ := args
  simp only at hr
  simp only [execOp, resolve, Sem.run_bind, Sem.run_pure, Result.andThen_ok, invoke, List.map_toArray, hr]
  rw [e]
  exact run_v h

/-- the length of a map -/
theorem lenMap_ok (hS : RS D S w) {at_ : Array TypeId} {t : TypeId} (h0 : at_[0]? = some t) {mt : TypeId × TypeId} (h1 : mapT (envH P H) t = some mt) {x x' v : Value} {S' : St} (h : (match x with | .map none => some (goInt 0, S) | .map (some r) => ob (mapV S r) fun e => some (goInt e.1.length, S) | _ => none) = some (v, S')) (hx : RV D x x') :
    S' = S ∧ ∃ r, (Builtin.len_ at_ ty #[x']).run P w = .ok r w ∧ RV D v r := by
  have hmt := run_under (mapT_ok h1) w
  cases hx with
  | nilMap =>
    simp only [Option.some.injEq, Prod.mk.injEq] at h
    obtain ⟨rfl, rfl⟩ := h
    refine ⟨rfl, goInt 0, ?_, .int _ _⟩
    simp [Builtin.len_, h0, hmt]
  | map i l hl =>
    simp only at h
    obtain ⟨e, h2, h3⟩ := ob_some.1 h
    simp only [Option.some.injEq, Prod.mk.injEq] at h3
    obtain ⟨rfl, rfl⟩ := h3
    obtain ⟨es, c⟩ := e
    obtain ⟨l', res, r1, r2, r3, r4, r5⟩ := hS.mapB h2
    rw [hl] at r2; cases r2
    have hgo := run_getObj (P := P) r3 (fun _ _ _ h => by cases h)
    refine ⟨rfl, goInt res.length, ?_, by rw [← r5.1]; exact .int _ _⟩
    simp [Builtin.len_, h0, hmt, hgo]
  | _ => simp at h

/-- an entry taken out -/
theorem delete_ok (hS : RS D S w) {at_ : Array TypeId} {t : TypeId} (h0 : at_[0]? = some t) {mt : TypeId × TypeId} (h1 : mapT (envH P H) t = some mt) {m k m' k' v : Value} {S' : St} {r : Nat} (h2 : mref m = some r) {es : List MapEntry} {c : Nat} (h3 : mapV S r = some (es, c)) (h4 : keyB (envH P H) es.isEmpty mt.1 k = true)
    (h : (ob (findV (envH P H) mt.1 k es) fun f => match f with | some (i, _) => some (Value.tuple #[], putV S r (.map (es.eraseIdx i) c)) | none => some (.tuple #[], putV S r (.map es c))) = some (v, S')) (hm : RV D m m') (hk : RV D k k') :
    ∃ w', (Builtin.delete_ at_ ty #[m', k']).run P w = .ok (.tuple #[]) w' ∧ v = .tuple #[] ∧ RS D S' w' ∧ Fr D S w D S' w' := by
  have hmt := run_under (mapT_ok h1) w
  obtain ⟨l, hl, em⟩ := mref_ok h2 hm
  obtain ⟨l', res, r1, r2, r3, r4, r5⟩ := hS.mapB h3
  rw [hl] at r2; cases r2
  obtain ⟨ek, hpk, hck⟩ := key_ok (P := P) h4 hk w
  have hgo := run_getObj (P := P) r3 (fun _ _ _ h => by cases h)
  have hemp : (Array.mk res).isEmpty = es.isEmpty := by
    have := r5.1
    cases es <;> cases res <;> simp_all
  subst ek
  obtain ⟨f, h15, h16⟩ := ob_some.1 h
  rcases find_ok h15 r5 w with ⟨e1, e2⟩ | ⟨i, u, u', e, e1, e2, e3, e4, e5⟩
  · subst e1
    simp only [Option.some.injEq, Prod.mk.injEq] at h16
    obtain ⟨rfl, rfl⟩ := h16
    obtain ⟨q1, q2, q3⟩ := hS.putMap (P := P) (c2 := c) r1 hl r3 r4 r5
    refine ⟨_, ?_, rfl, q2, q3⟩
    simp [Builtin.delete_, h0, hmt, em, hgo, hemp, hck, e2, q1]
  · subst e1
    simp only [Option.some.injEq, Prod.mk.injEq] at h16
    obtain ⟨rfl, rfl⟩ := h16
    obtain ⟨q1, q2, q3⟩ := hS.putMap (P := P) (c2 := c) r1 hl r3 r4 (r5.eraseIdx i)
    refine ⟨_, ?_, rfl, q2, q3⟩
    simp [Builtin.delete_, h0, hmt, em, hgo, hemp, hck, e2, q1]

theorem takeX_pre : ∀ {l : List Value} {o m n : Nat} {s : List Value}, takeX l o m = some s → n ≤ m → takeX l o n = some (s.take n)
  | l, 0, m, 0, s, h, hn => by simp [takeX]
  | [], 0, 0, n + 1, s, h, hn => by omega
  | x :: r, 0, 0, n + 1, s, h, hn => by omega
  | [], 0, m + 1, n + 1, s, h, hn => by simp [takeX] at h
  | x :: r, 0, m + 1, n + 1, s, h, hn => by
    simp only [takeX] at h ⊢
    obtain ⟨s1, h1, h2⟩ := ob_some.1 h
    cases h2
    rw [takeX_pre h1 (by omega)]
    rfl
  | x :: r, k + 1, m, n, s, h, hn => by
    simp only [takeX] at h ⊢
    exact takeX_pre h hn
  | [], k + 1, m, n, s, h, hn => by simp [takeX] at h

/-- the first n elements -/
theorem firstN_ok (hS : RS D S w) {size : Nat} {v r : Value} {l : List Value} (h : cellsOfV S size v = some l) (hr : RV D v r) : ∃ m, (Builtin.lenOf r).run P w = .ok m w ∧ l.length = m * size ∧ ∀ k, k ≤ m → ∃ l', (Builtin.firstCells size k r).run P w = .ok ⟨l'⟩ w ∧ RL D (l.take (k * size)) l' := by
  have row : ∀ {i off m c : Nat} {lc : Loc}, D i = some lc → (ob (rowV S i) fun r => takeX r.1 off (Nat.mul m size)) = some l → l.length = m * size ∧ ∀ k, k ≤ m → ∃ l', (Builtin.firstCells size k (.slice (some ⟨lc.b, off + lc.sh, none⟩) m c)).run P w = .ok ⟨l'⟩ w ∧ RL D (l.take (k * size)) l' := by
    intro i off m c lc hl h
    obtain ⟨⟨cs, e⟩, h1, h2⟩ := ob_some.1 h
    refine ⟨(takeX_ok (D := D) h2).1, fun k hk => ?_⟩
    have h3 : cellsOfV S size (.slice (some ⟨i, off, none⟩) k 0) = some (l.take (k * size)) := by
      show (ob (rowV S i) fun r => takeX r.1 off (Nat.mul k size)) = _
      exact ob_some.2 ⟨(cs, e), h1, takeX_pre h2 (Nat.mul_le_mul_right size hk)⟩
    obtain ⟨m', l', q1, q2, q3⟩ := cellsOf_ok (P := P) hS h3 (.slc i off lc k 0 hl (by decide))
    have hm : m' = k := by
      have := (q1 w rfl).1
      simp [Builtin.lenOf] at this
      exact this.symm
    subst hm
    exact ⟨l', (q1 w rfl).2, q2⟩
  cases hr with
  | string s =>
    obtain ⟨hsz, h⟩ := gd_some.1 h
    simp only [Option.some.injEq] at h
    subst h
    have hsz' := Nat.eq_of_beq_eq_true hsz
    subst hsz'
    refine ⟨s.size, rfl, by rw [List.length_map, Array.length_toList, Nat.mul_one]; rfl, fun k hk => ⟨(s.data.toList.take k).map fun b => .int .u8 b.toNat, ?_, ?_⟩⟩
    · simp only [Builtin.firstCells, Sem.run_pure]
      congr 2
      rw [ByteArray.data_extract]
      apply Array.toList_inj.1
      simp
    · rw [Nat.mul_one, ← List.map_take]
      refine ⟨rfl, fun i x y hx hy => ?_⟩
      rw [hx] at hy; cases hy
      simp only [List.getElem?_map, Option.map_eq_some_iff] at hx
      obtain ⟨b, -, rfl⟩ := hx
      exact .int _ _
  | nilSlc =>
    simp only [cellsOfV, Option.some.injEq] at h
    subst h
    exact ⟨0, rfl, by simp, fun k hk => ⟨[], rfl, by simpa using RL.nil⟩⟩
  | slcE a c =>
    simp only [cellsOfV, Option.some.injEq] at h
    subst h
    refine ⟨0, rfl, by simp, fun k hk => ⟨[], ?_, by simpa using RL.nil⟩⟩
    obtain rfl : k = 0 := by omega
    cases a with
    | none => rfl
    | some a => simp [Builtin.firstCells, loadCells, loadCellsFrom]
  | slc i off lc m c hl hc =>
    obtain ⟨q1, q2⟩ := row (c := c) hl h
    exact ⟨m, rfl, q1, q2⟩
  | slcU i off lc m s mc rc hl p1 p0 p2 p4 p5 p3 =>
    obtain ⟨q1, q2⟩ := row (c := rc) hl h
    exact ⟨m, rfl, q1, q2⟩
  | _ => simp [cellsOfV] at h

theorem copy_ok (hS : RS D S w) {at_ : Array TypeId} {t : TypeId} (h0 : at_[0]? = some t) {e : TypeId × Nat} (he : elS (envH P H) t = some e) (h1 : 0 < e.2) {base : Option Addr} {dl dc : Nat} {x s' x' v : Value} {src : List Value} {S' : St} (h2 : cellsOfV S e.2 x = some src)
    (h : (match base with
      | none => some (goInt 0, S)
      | some a => ob (rowV S a.block) fun r => gd (a.spot.isNone && src.all (·.oneCell') && Nat.beq (Nat.mul (Nat.div src.length e.2) e.2) src.length) (ob (setX r.1 a.off (src.take (Nat.mul (Nat.min (Nat.div src.length e.2) dl) e.2))) fun cs => some (goInt (Nat.min (Nat.div src.length e.2) dl), putV S a.block (.row cs r.2)))) = some (v, S'))
    (hs : RV D (.slice base dl dc) s') (hx : RV D x x') : ∃ r w', (Builtin.copy_ at_ ty #[s', x']).run P w = .ok r w' ∧ RV D v r ∧ RS D S' w' ∧ Fr D S w D S' w' := by
  obtain ⟨ku, ks⟩ := run_elS he
  have hut := run_under ku w
  have hus := run_size ks w
  obtain ⟨m, hlen, hml, hfirst⟩ := firstN_ok (P := P) hS h2 hx
  have hdiv : Nat.div src.length e.2 = m := by
    show src.length / e.2 = m
    rw [hml, Nat.mul_div_cancel _ h1]
  rw [hdiv] at h
  have some_ : ∀ {i off : Nat} {l : Loc} {rc : Nat}, base = some ⟨i, off, none⟩ → D i = some l → s' = .slice (some ⟨l.b, off + l.sh, none⟩) dl rc → ∃ r w', (Builtin.copy_ at_ ty #[s', x']).run P w = .ok r w' ∧ RV D v r ∧ RS D S' w' ∧ Fr D S w D S' w' := by
    intro i off l rc eb hl es
    subst eb es
    simp only at h
    obtain ⟨⟨cs, el⟩, h3, h4⟩ := ob_some.1 h
    obtain ⟨h5, h6⟩ := gd_some.1 h4
    obtain ⟨cs', h7, h8⟩ := ob_some.1 h6
    simp only [Option.some.injEq, Prod.mk.injEq] at h8
    obtain ⟨rfl, rfl⟩ := h8
    simp only [Bool.and_eq_true] at h5
    obtain ⟨l', q1, q2⟩ := hfirst (Nat.min m dl) (Nat.min_le_left _ _)
    obtain ⟨w', g1, g2, g3⟩ := hS.putRow (P := P) h3 hl h7 q2 (by
      rw [List.all_eq_true]
      intro y hy
      exact List.all_eq_true.1 h5.1.2 y (List.mem_of_mem_take hy))
    refine ⟨goInt (Nat.min m dl), w', ?_, .int _ _, g2, g3⟩
    simp [Builtin.copy_, h0, hut, hlen, hus, q1, g1]
  cases hs with
  | nilSlc =>
    simp only [Option.some.injEq, Prod.mk.injEq] at h
    obtain ⟨rfl, rfl⟩ := h
    obtain ⟨l', q1, q2⟩ := hfirst 0 (Nat.zero_le _)
    refine ⟨goInt 0, w, ?_, .int _ _, hS, Fr.refl _ _ _⟩
    simp [Builtin.copy_, h0, hut, hlen, hus, q1]
  | slcE a c =>
    simp only [Option.some.injEq, Prod.mk.injEq] at h
    obtain ⟨rfl, rfl⟩ := h
    obtain ⟨l', q1, q2⟩ := hfirst 0 (Nat.zero_le _)
    have : l' = [] := by
      have := q2.1
      simpa using this.symm
    subst this
    refine ⟨goInt 0, w, ?_, .int _ _, hS, Fr.refl _ _ _⟩
    cases a <;> simp [Builtin.copy_, h0, hut, hlen, hus, q1, storeCells]
  | slc i off l _ c hl hc => exact some_ rfl hl rfl
  | slcU i off l _ s mc rc hl p1 p0 p2 p4 p5 p3 => exact some_ rfl hl rfl

theorem rep_rl {l : List Value} (h : RL D l l) : ∀ k, RL D (rep l k) (rep l k)
  | 0 => RL.nil
  | k + 1 => h.append (rep_rl h k)
theorem rep_all {l : List Value} {p : Value → Bool} (h : l.all p = true) : ∀ k, (rep l k).all p = true
  | 0 => rfl
  | k + 1 => by
    show (l ++ rep l k).all p = true
    rw [List.all_append, h, rep_all h k]; rfl

theorem clear_ok (hS : RS D S w) {at_ : Array TypeId} {t : TypeId} (h0 : at_[0]? = some t) {e : TypeId × Nat} (he : elS (envH P H) t = some e) {z : Value} (hz : zer (envH P H) e.1 = some z) (hall : z.cells.toList.all (·.oneCell') = true) {base : Option Addr} {dl dc : Nat} {s' v : Value} {S' : St}
    (h : (match base with
      | none => some (Value.tuple #[], S)
      | some a => ob (rowV S a.block) fun r => gd a.spot.isNone (ob (setX r.1 a.off (rep z.cells.toList dl)) fun cs => some (.tuple #[], putV S a.block (.row cs r.2)))) = some (v, S'))
    (hs : RV D (.slice base dl dc) s') : ∃ w', (Builtin.clear_ at_ ty #[s']).run P w = .ok (.tuple #[]) w' ∧ v = .tuple #[] ∧ RS D S' w' ∧ Fr D S w D S' w' := by
  obtain ⟨ku, ks⟩ := run_elS he
  have hut := run_under ku w
  obtain ⟨hzr, hp⟩ := run_zero hz w
  have some_ : ∀ {i off : Nat} {l : Loc} {rc : Nat}, base = some ⟨i, off, none⟩ → D i = some l → s' = .slice (some ⟨l.b, off + l.sh, none⟩) dl rc → ∃ w', (Builtin.clear_ at_ ty #[s']).run P w = .ok (.tuple #[]) w' ∧ v = .tuple #[] ∧ RS D S' w' ∧ Fr D S w D S' w' := by
    intro i off l rc eb hl es
    subst eb es
    simp only at h
    obtain ⟨⟨cs, el⟩, h3, h4⟩ := ob_some.1 h
    obtain ⟨-, h6⟩ := gd_some.1 h4
    obtain ⟨cs', h7, h8⟩ := ob_some.1 h6
    simp only [Option.some.injEq, Prod.mk.injEq] at h8
    obtain ⟨rfl, rfl⟩ := h8
    obtain ⟨w', g1, g2, g3⟩ := hS.putRow (P := P) h3 hl h7 (rep_rl (pl_rv 4 z hp).cells dl) (rep_all hall dl)
    refine ⟨w', ?_, rfl, g2, g3⟩
    cases dl with
    | zero =>
      have : w' = w := by
        simp [rep, storeCells] at g1
        exact g1.symm
      subst this
      simp [Builtin.clear_, h0, hut]
    | succ dl => simp [Builtin.clear_, h0, hut, hzr, zeroCells_rep, g1]
  cases hs with
  | nilSlc =>
    simp only [Option.some.injEq, Prod.mk.injEq] at h
    obtain ⟨rfl, rfl⟩ := h
    refine ⟨w, ?_, rfl, hS, Fr.refl _ _ _⟩
    simp [Builtin.clear_, h0, hut]
  | slcE a c =>
    simp only [Option.some.injEq, Prod.mk.injEq] at h
    obtain ⟨rfl, rfl⟩ := h
    refine ⟨w, ?_, rfl, hS, Fr.refl _ _ _⟩
    cases a <;> simp [Builtin.clear_, h0, hut]
  | slc i off l _ c hl hc => exact some_ rfl hl rfl
  | slcU i off l _ s mc rc hl p1 p0 p2 p4 p5 p3 => exact some_ rfl hl rfl

/-- a row of bytes as a string -/
theorem bytesV_ok : ∀ {cs : List Value} {bs : List UInt8}, heapV.bytesV cs = some bs → ∀ {l' : List Value}, RL D cs l' → ∀ (msg : String) (s0 : ByteArray) (w : World),
    (forIn (m := Sem) (Array.mk l') s0 (fun (c : Value) (s : ByteArray) => match c with | .int .u8 n => (pure (ForInStep.yield (s.push (UInt8.ofNat n.toNat))) : Sem (ForInStep ByteArray)) | _ => do (stuck msg : Sem PUnit); pure (ForInStep.yield s))).run P w = .ok ⟨⟨s0.data.toList ++ bs⟩⟩ w := by
  intro cs bs h l' hr msg s0 w
  rw [← Array.forIn_toList]
  simp only
  induction cs generalizing bs l' s0 with
  | nil =>
    simp only [heapV.bytesV, Option.some.injEq] at h
    subst h
    rw [hr.nil_inv]
    simp
  | cons c cs ih =>
    obtain ⟨c', l2, e1, h1, h2⟩ := hr.cons_inv
    subst e1
    unfold heapV.bytesV at h
    split at h
    · rename_i heq; cases heq
    · rename_i n r heq
      cases heq
      obtain ⟨b2, g1, g2⟩ := ob_some.1 h
      cases g2
      cases h1
      simp only [List.forIn_cons, Sem.run_bind, Sem.run_pure, Result.andThen_ok]
      rw [ih g1 h2]
      simp
    · cases h

theorem bytesToString_ok (hS : RS D S w) {xv xr : Value} {cs : List Value} {bs : List UInt8} (h1 : (match xv with | .slice _ _ _ => cellsOfV S 1 xv | _ => none) = some cs) (h2 : heapV.bytesV cs = some bs) (hx : RV D xv xr) :
    (∃ a n c, xr = .slice a n c) ∧ (Conv.bytesToString xr).run P w = .ok (.string ⟨⟨bs⟩⟩) w := by
  have emp : cs = [] → bs = [] := fun e => by
    subst e
    simp only [heapV.bytesV, Option.some.injEq] at h2
    exact h2.symm
  have row : ∀ {a : Addr} {n c : Nat}, (∃ m l', (Builtin.lenOf (.slice (some a) n c)).run P w = .ok m w ∧ (Builtin.firstCells 1 m (.slice (some a) n c)).run P w = .ok ⟨l'⟩ w ∧ RL D cs l') → (Conv.bytesToString (.slice (some a) n c)).run P w = .ok (.string ⟨⟨bs⟩⟩) w := by
    rintro a n c ⟨m, l', q1, q2, q3⟩
    simp [Builtin.lenOf] at q1
    subst q1
    simp only [Builtin.firstCells, Nat.mul_one] at q2
    have this := fun msg => bytesV_ok (P := P) h2 q3 msg ByteArray.empty w
    simp only [Conv.bytesToString, Sem.run_bind, q2, Result.andThen_ok]
    exact (congrArg (fun r : Result ByteArray => r.andThen fun a w' => Sem.run P (pure (Value.string a)) w') (this _)).trans (by
      show Result.ok (Value.string ⟨⟨ByteArray.empty.data.toList ++ bs⟩⟩) w = _
      rw [show ByteArray.empty.data.toList = [] from rfl, List.nil_append])
  cases hx with
  | nilSlc =>
    simp only [cellsOfV, Option.some.injEq] at h1
    refine ⟨⟨_, _, _, rfl⟩, ?_⟩
    rw [emp h1.symm]
    rfl
  | slcE a c =>
    simp only [cellsOfV, Option.some.injEq] at h1
    refine ⟨⟨_, _, _, rfl⟩, ?_⟩
    cases a with
    | none => rw [emp h1.symm]; rfl
    | some a =>
      refine row ⟨0, [], rfl, ?_, by rw [← h1]; exact RL.nil⟩
      simp [Builtin.firstCells, loadCells, loadCellsFrom]
  | slc i off l n c hl hc =>
    obtain ⟨m, l', q1, q2, -⟩ := cellsOf_ok (P := P) hS h1 (.slc i off l n c hl hc)
    exact ⟨⟨_, _, _, rfl⟩, row ⟨m, l', (q1 w rfl).1, (q1 w rfl).2, q2⟩⟩
  | slcU i off l n s mc rc hl p1 p0 p2 p4 p5 p3 =>
    obtain ⟨m, l', q1, q2, -⟩ := cellsOf_ok (P := P) hS h1 (.slcU i off l n s mc rc hl p1 p0 p2 p4 p5 p3)
    exact ⟨⟨_, _, _, rfl⟩, row ⟨m, l', (q1 w rfl).1, (q1 w rfl).2, q2⟩⟩
  | _ => simp at h1

theorem freeze_new (w : World) (C : Array Value) (e : TypeId) (k : Nat) : (w.alloc (.cells C e)).freeze ⟨w.heap.size, k, none⟩ 1 = w.alloc (.cells C e (k, k + 1)) := by
  unfold World.freeze World.alloc
  rw [if_neg (by omega)]
  simp only [World.mk.injEq, and_true]
  apply Array.ext_getElem?
  intro i
  rw [Array.getElem?_modify, Array.getElem?_push, Array.getElem?_push]
  by_cases c : w.heap.size = i
  · subst c; simp
  · rw [if_neg c, if_neg (Ne.symm c), if_neg (Ne.symm c)]

/-- a string's bytes in a new row -/
theorem stringToBytes_ok (hS : RS D S w) (hD : D S.n = none) (e : TypeId) (s : ByteArray) (hsz : s.size ≤ 100000) : ∃ D' c w', (Conv.stringToBytes e s).run P w = .ok (.slice (some ⟨w.heap.size, 0, none⟩) s.size c) w' ∧
    RV D' (.slice (some ⟨S.n, 0, none⟩) s.size (unk s.size 1)) (.slice (some ⟨w.heap.size, 0, none⟩) s.size c) ∧ RS D' (newV S (.row (s.data.toList.map fun b => .int .u8 b.toNat) e)) w' ∧ Fr D S w D' (newV S (.row (s.data.toList.map fun b => .int .u8 b.toNat) e)) w' := by
  have hrun : ∃ c C, s.size ≤ c ∧ C = s.data.map (fun b => Value.int .u8 b.toNat) ++ Array.replicate (c - s.size) (.int .u8 0) ∧ (Conv.stringToBytes e s).run P w = .ok (.slice (some ⟨w.heap.size, 0, none⟩) s.size c) ((w.drew.alloc (.cells C e)).freeze ⟨w.heap.size, C.size, none⟩ 1) := by
    refine ⟨s.size + w.tape w.drawn (.appendCap s.size 0 e) % (2 ^ 63 - s.size), _, by omega, rfl, ?_⟩
    have hsh : ∀ C : Array Value, (w.drew.alloc (.cells C e)).shape? w.heap.size = some (e, C.size) := fun C => by
      have h : (w.drew.alloc (.cells C e)).heap[w.heap.size]? = some (.cells C e (0, 0)) := by show (w.heap.push _)[w.heap.size]? = _; simp
      unfold World.shape?
      rw [h]
    simp [Conv.stringToBytes, Question.forced, Question.cut, newRow, markStringish, hsh]
  obtain ⟨c, C, h1, h2, h3⟩ := hrun
  have hC : C.size = c := by
    rw [h2, Array.size_append, Array.size_map, Array.size_replicate]
    show s.size + (c - s.size) = c
    omega
  rw [show ((w.drew.alloc (.cells C e)).freeze ⟨w.heap.size, C.size, none⟩ 1) = w.drew.alloc (.cells C e (C.size, C.size + 1)) from freeze_new w.drew C e C.size] at h3
  obtain ⟨q1, q2⟩ := hS.drew.new (c := c) hD (o := .row (s.data.toList.map fun b => .int .u8 b.toNat) e) (ob := .cells C e (C.size, C.size + 1)) (.row _ e C C.size (C.size + 1) hC (by
    show (s.data.toList.map fun b => Value.int .u8 b.toNat).length + 0 ≤ C.size
    rw [List.length_map, Array.length_toList, hC]
    exact h1) (fun i x hx => by
      refine ⟨x, ?_, ?_⟩
      · show C[i + 0]? = some x
        have hlt : i < s.data.size := by
          have := (List.getElem?_eq_some_iff.1 hx).1
          simpa using this
        rw [h2, Nat.add_zero, Array.getElem?_append_left (by simpa using hlt)]
        simpa using hx
      · simp only [List.getElem?_map, Option.map_eq_some_iff] at hx
        obtain ⟨b, -, rfl⟩ := hx
        exact .int _ _) (.inr (Nat.le_refl _)))
  refine ⟨_, c, _, h3, ?_, q1, (Fr.drew D S w).trans q2⟩
  exact .slcU S.n 0 ⟨w.heap.size, 0, c⟩ s.size 1 s.size c (Dm.up_self _ _ _) (by omega) (by decide) (Nat.le_refl _) h1 (by omega) (by simp)

theorem convert_ok (hT : RT D n tm a) (hS : RS D S w) {s d : TypeId} {x : Operand} {v : Value} {S' : St} (h : heapV (envH P H) tm S (.convert s d x) = some (v, S')) (hf : ∀ i, S.n ≤ i → i < S'.n → D i = none) : Did P D S w ⟨dst, .convert s d x, ty, pos, after, guard⟩ a v S' := by
  simp only [heapV] at h
  obtain ⟨ds, h1, h2⟩ := ob_some.1 h
  obtain ⟨dd, h3, h4⟩ := ob_some.1 h2
  have us := run_under h1 w
  have ud := run_under h3 w
  split at h4
  · obtain ⟨de, h5, h6⟩ := ob_some.1 h4
    have ue := run_under h5 w
    split at h6
    · obtain ⟨xv, h7, h8⟩ := ob_some.1 h6
      obtain ⟨cs, h9, h10⟩ := ob_some.1 h8
      obtain ⟨bs, h11, h12⟩ := ob_some.1 h10
      simp only [Option.some.injEq, Prod.mk.injEq] at h12
      obtain ⟨rfl, rfl⟩ := h12
      obtain ⟨⟨a', n', c', e1⟩, q⟩ := bytesToString_ok (P := P) hS h9 h11 (evO_ok hT h7)
      refine ⟨D, _, .string ⟨⟨bs⟩⟩, w, run_v ?_, .value _, .string _, hS, Fr.refl _ _ _⟩
      rw [e1] at q ⊢
      cases a' <;> simp [convert, us, ud, ue, q]
    · cases h6
  · rename_i e
    obtain ⟨de, h5, h6⟩ := ob_some.1 h4
    have ue := run_under h5 w
    split at h6
    · obtain ⟨xv, h7, h8⟩ := ob_some.1 h6
      split at h8
      · rename_i str
        obtain ⟨h9, h10⟩ := gd_some.1 h8
        simp only [Option.some.injEq, Prod.mk.injEq] at h10
        obtain ⟨rfl, rfl⟩ := h10
        obtain ⟨D', c, w', q1, q2, q3, q4⟩ := stringToBytes_ok (P := P) hS (hf _ (Nat.le_refl _) (Nat.lt_succ_self _)) e str (Nat.le_of_ble_eq_true h9)
        refine ⟨D', _, _, w', run_v ?_, .value _, q2, q3, q4⟩
        have hx := evO_ok hT h7
        generalize a.eval x = xr at hx
        cases hx
        simp [convert, us, ud, ue, q1]
      · cases h8
    · cases h6
  · cases h4

theorem builtin_ok (hT : RT D n tm a) (hS : RS D S w) {b : Builtin} {args : Array Operand} {at_ : Array TypeId} {v : Value} {S' : St} (h : heapV (envH P H) tm S (.call ⟨.builtin b, args, at_⟩) = some (v, S')) (hf : ∀ i, S.n ≤ i → i < S'.n → D i = none) : Did P D S w ⟨dst, .call ⟨.builtin b, args, at_⟩, ty, pos, after, guard⟩ a v S' := by
  obtain ⟨vs, h1, h2⟩ := ob_some.1 h
  have hvs := evL_ok hT h1
  cases b with
  | append =>
    match vs, h2, hvs with
    | [s, x], h2, hvs =>
      simp only at h2
      obtain ⟨t, h3, h4⟩ := ob_some.1 h2
      obtain ⟨t2, h5, h6⟩ := ob_some.1 h4
      obtain ⟨s', r1, e1, hs, hr1⟩ := hvs.cons_inv
      obtain ⟨x', r2, e2, hx, hr2⟩ := hr1.cons_inv
      rw [hr2.nil_inv] at e2
      subst e2
      obtain ⟨D', r, w', q1, q2, q3, q4⟩ := appendV_ok (P := P) (ty := ty) hS (by simpa using h3) (by simpa using h5) h6 hs hx hf
      exact ⟨D', _, r, w', call_builtin e1 (s := Builtin.append_ at_ ty #[s', x']) (fun _ => rfl) q1, .value _, q2, q3, q4⟩
    | [], h2, _ => simp at h2
    | [_], h2, _ => simp at h2
    | _ :: _ :: _ :: _, h2, _ => simp at h2
  | len =>
    match vs, h2, hvs with
    | [x], h2, hvs =>
      simp only at h2
      obtain ⟨t, h3, h4⟩ := ob_some.1 h2
      obtain ⟨mt, h5, h6⟩ := ob_some.1 h4
      obtain ⟨x', r1, e1, hx, hr1⟩ := hvs.cons_inv
      rw [hr1.nil_inv] at e1
      obtain ⟨e2, r, q1, q2⟩ := lenMap_ok (P := P) (ty := ty) hS (by simpa using h3) h5 h6 hx
      subst e2
      exact ⟨D, _, r, w, call_builtin e1 (s := Builtin.len_ at_ ty #[x']) (fun _ => rfl) q1, .value _, q2, hS, Fr.refl _ _ _⟩
    | [], h2, _ => simp at h2
    | _ :: _ :: _, h2, _ => simp at h2
  | copy =>
    match vs, h2, hvs with
    | [.slice base dl dc, x], h2, hvs =>
      simp only at h2
      obtain ⟨t, h3, h4⟩ := ob_some.1 h2
      obtain ⟨e, h5, h6⟩ := ob_some.1 h4
      obtain ⟨h7, h8⟩ := gd_some.1 h6
      obtain ⟨src, h9, h10⟩ := ob_some.1 h8
      obtain ⟨s', r1, e1, hs, hr1⟩ := hvs.cons_inv
      obtain ⟨x', r2, e2, hx, hr2⟩ := hr1.cons_inv
      rw [hr2.nil_inv] at e2
      subst e2
      obtain ⟨r, w', q1, q2, q3, q4⟩ := copy_ok (P := P) (ty := ty) hS (by simpa using h3) h5 (Nat.le_of_ble_eq_true h7) h9 h10 hs hx
      exact ⟨D, _, r, w', call_builtin e1 (s := Builtin.copy_ at_ ty #[s', x']) (fun _ => rfl) q1, .value _, q2, q3, q4⟩
    | [], h2, _ => simp at h2
    | [_], h2, _ => simp at h2
    | _ :: _ :: _ :: _, h2, _ => simp at h2
  | clear =>
    match vs, h2, hvs with
    | [.slice base dl dc], h2, hvs =>
      simp only at h2
      obtain ⟨t, h3, h4⟩ := ob_some.1 h2
      obtain ⟨e, h5, h6⟩ := ob_some.1 h4
      obtain ⟨z, h7, h8⟩ := ob_some.1 h6
      obtain ⟨h9, h10⟩ := gd_some.1 h8
      simp only [Bool.and_eq_true] at h9
      obtain ⟨s', r1, e1, hs, hr1⟩ := hvs.cons_inv
      rw [hr1.nil_inv] at e1
      obtain ⟨w', q1, q2, q3, q4⟩ := clear_ok (P := P) (ty := ty) hS (by simpa using h3) h5 h7 h9.2 h10 hs
      subst q2
      exact ⟨D, _, _, w', call_builtin e1 (s := Builtin.clear_ at_ ty #[s']) (fun _ => rfl) q1, .value _, RV.tuple' RL.nil, q3, q4⟩
    | [], h2, _ => simp at h2
    | _ :: _ :: _, h2, _ => simp at h2
  | delete =>
    match vs, h2, hvs with
    | [mm, kk], h2, hvs =>
      simp only at h2
      obtain ⟨t, h3, h4⟩ := ob_some.1 h2
      obtain ⟨mt, h5, h6⟩ := ob_some.1 h4
      obtain ⟨r, h7, h8⟩ := ob_some.1 h6
      obtain ⟨⟨es, c⟩, h9, h10⟩ := ob_some.1 h8
      obtain ⟨h11, h12⟩ := gd_some.1 h10
      obtain ⟨m', r1, e1, hm, hr1⟩ := hvs.cons_inv
      obtain ⟨k', r2, e2, hk, hr2⟩ := hr1.cons_inv
      rw [hr2.nil_inv] at e2
      subst e2
      obtain ⟨w', q1, q2, q3, q4⟩ := delete_ok (P := P) (ty := ty) hS (by simpa using h3) h5 h7 h9 h11 h12 hm hk
      subst q2
      exact ⟨D, _, _, w', call_builtin e1 (s := Builtin.delete_ at_ ty #[m', k']) (fun _ => rfl) q1, .value _, RV.tuple' RL.nil, q3, q4⟩
    | [], h2, _ => simp at h2
    | [_], h2, _ => simp at h2
    | _ :: _ :: _ :: _, h2, _ => simp at h2
  | _ => simp at h2

theorem heapV_ok (hT : RT D n tm a) (hS : RS D S w) {o : Oper} {v : Value} {S' : St} (h : heapV (envH P H) tm S o.op = some (v, S')) (hf : ∀ i, S.n ≤ i → i < S'.n → D i = none) : Did P D S w o a v S' := by
  obtain ⟨dst, op, ty, pos, after, guard⟩ := o
  simp only at h
  cases op with
  | alloc t => exact alloc_ok hT hS h hf
  | box t x => exact box_ok hT hS h hf
  | buildSlice t len parts => exact buildSlice_ok hT hS h hf
  | load t x => exact load_ok hT hS h
  | store t x y => exact store_ok hT hS h
  | makeMap t r => exact makeMap_ok hT hS h hf
  | makeSlice t x y => exact makeSlice_ok hT hS h hf
  | lookup t x k ok => exact lookup_ok hT hS h
  | mapUpdate t m k x => exact mapUpdate_ok hT hS h
  | insert t m k x => exact insert_ok hT hS h
  | mapEntry t m k => exact mapEntry_ok hT hS h
  | entryStore t m s x => exact entryStore_ok hT hS h
  | range t x => exact range_ok hT hS h hf
  | next it isS => exact next_ok hT hS h
  | entry it => exact entry_ok hT hS h
  | convert s d x => exact convert_ok hT hS h hf
  | call c =>
    obtain ⟨callee, args, at_⟩ := c
    cases callee with
    | builtin b => exact builtin_ok hT hS h hf
    | value f => simp [heapV] at h
    | invoke r m => simp [heapV] at h
  | _ => simp [heapV] at h
end
end Go.Ex
