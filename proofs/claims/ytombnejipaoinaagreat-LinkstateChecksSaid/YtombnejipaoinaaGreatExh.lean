/-
  The evaluator's append.
-/
import Derived.Test.YtombnejipaoinaaGreatExg
namespace Go.Ex
open Go

theorem growBy_le (m : Nat) : ∀ (r c : Nat), c ≤ m + m / 4 + 193 → Builtin.growBy m r c ≤ m + m / 4 + 193
  | 0, c, h => h
  | r + 1, c, h => by
    simp only [Builtin.growBy]
    split
    · exact h
    · exact growBy_le m r _ (by omega)
theorem nextcap_le {m c : Nat} (h : c < m) : Builtin.nextslicecap m c ≤ m + m + 512 := by
  unfold Builtin.nextslicecap
  split
  · omega
  · split
    · omega
    · have := growBy_le m 4 c (by omega); omega

section
variable {D : Dm} {n : Nat} {tm : Tm} {a : Act} {P : Program} {S : St} {w : World} {H : Hooks}

/-- a slice's or a string's cells -/
theorem cellsOf_ok (hS : RS D S w) {size : Nat} {v r : Value} {l : List Value} (h : cellsOfV S size v = some l) (hr : RV D v r) : ∃ (m : Nat) (l' : List Value), (∀ w' : World, w'.heap = w.heap → (Builtin.lenOf r).run P w' = .ok m w' ∧ (Builtin.firstCells size m r).run P w' = .ok ⟨l'⟩ w') ∧ RL D l l' ∧ l.length = m * size := by
  have row : ∀ {i off m c : Nat} {lc : Loc}, D i = some lc → (ob (rowV S i) fun r => takeX r.1 off (Nat.mul m size)) = some l → ∃ l', (∀ w' : World, w'.heap = w.heap → (Builtin.firstCells size m (.slice (some ⟨lc.b, off + lc.sh, none⟩) m c)).run P w' = .ok ⟨l'⟩ w') ∧ RL D l l' ∧ l.length = m * size := by
    intro i off m c lc hl h
    obtain ⟨⟨cs, e⟩, h1, h2⟩ := ob_some.1 h
    obtain ⟨l', rc, lo, hi, k0, k1, k2, k3, k4, k5, k6⟩ := hS.row h1
    rw [hl] at k1; cases k1
    obtain ⟨c2, h7, h8⟩ := k5.takeX h2
    obtain ⟨h9, h10⟩ := takeX_ok (D := D) h7
    have old : ∀ (i : Nat) (y : Value), ((rc.toList.drop lc.sh).take cs.length)[i]? = some y → rc[i + lc.sh]? = some y := fun i y hy => by
      have hi : i < cs.length := by
        have := (List.getElem?_eq_some_iff.1 hy).1
        simp at this; omega
      rw [List.getElem?_take_of_lt hi, List.getElem?_drop, Array.getElem?_toList, Nat.add_comm] at hy
      exact hy
    refine ⟨c2, fun w' hw' => ?_, h8, by rw [h8.1, h9]; rfl⟩
    have := run_loadC (P := P) (w := w') (k := off + lc.sh) (by rw [hw']; exact k2) c2 (fun i x hx => by
      have := old _ _ (h10 i x hx)
      rw [show off + lc.sh + i = off + i + lc.sh by omega]; exact this)
    rw [h9] at this
    exact this
  cases hr with
  | string s =>
    obtain ⟨hsz, h⟩ := gd_some.1 h
    simp only [Option.some.injEq] at h
    subst h
    have hsz' := Nat.eq_of_beq_eq_true hsz
    refine ⟨s.size, s.data.toList.map fun b => .int .u8 b.toNat, fun w' _ => ⟨rfl, ?_⟩, ⟨rfl, fun i x y hx hy => ?_⟩, by subst hsz'; rw [List.length_map, Array.length_toList, Nat.mul_one]; rfl⟩
    · simp only [Builtin.firstCells, Sem.run_pure]
      congr 2
      rw [ByteArray.data_extract, show s.size = s.data.size from rfl, Array.extract_size, ← Array.toList_map]
    · rw [hx] at hy; cases hy
      simp only [List.getElem?_map, Option.map_eq_some_iff] at hx
      obtain ⟨b, -, rfl⟩ := hx
      exact .int _ _
  | nilSlc =>
    simp only [cellsOfV, Option.some.injEq] at h
    subst h
    exact ⟨0, [], fun _ _ => ⟨rfl, rfl⟩, .nil, by simp⟩
  | slcE a c =>
    simp only [cellsOfV, Option.some.injEq] at h
    subst h
    refine ⟨0, [], fun w' _ => ⟨rfl, ?_⟩, .nil, by simp⟩
    cases a with
    | none => rfl
    | some a => simp [Builtin.firstCells, loadCells, loadCellsFrom]
  | slc i off lc m c hl hc =>
    obtain ⟨l', h1, h2, h3⟩ := row (c := c) hl h
    exact ⟨m, l', fun w' hw => ⟨rfl, h1 w' hw⟩, h2, h3⟩
  | slcU i off lc m s mc rc hl p1 p0 p2 p4 p5 p3 =>
    obtain ⟨l', h1, h2, h3⟩ := row (c := rc) hl h
    exact ⟨m, l', fun w' hw => ⟨rfl, h1 w' hw⟩, h2, h3⟩
  | _ => simp [cellsOfV] at h


theorem zeroCells_rep (z : Array Value) (k : Nat) : Builtin.zeroCells z k = ⟨rep z.toList k⟩ := by
  unfold Builtin.zeroCells
  rw [← rep_range]

def isIntD : TypeDesc → Bool
  | .int _ => true
  | _ => false
/-- what is appended: its length and its cells -/
theorem newCells_ok (hS : RS D S w) {e : TypeId × Nat} {t2 : TypeId} {x y : Value} {l : List Value} (h : newCells (envH P H) S e t2 x = some l) (hx : RV D x y) : ∃ (d : TypeDesc) (m : Nat) (l' : List Value), und (envH P H) t2 = some d ∧ RL D l l' ∧ l.length = m * e.2 ∧
    (isIntD d = true → ∃ (k : IntKind) (ti : TypeInfo) (z : Value), y = .int k m ∧ m ≤ 100000 ∧ P.info? e.1 = some ti ∧ ti.bytes ≤ 100000 ∧ zer (envH P H) e.1 = some z ∧ l' = rep z.cells.toList m ∧ z.cells.size = e.2) ∧
    (isIntD d = false → ∀ w' : World, w'.heap = w.heap → (Builtin.lenOf y).run P w' = .ok m w' ∧ (Builtin.firstCells e.2 m y).run P w' = .ok ⟨l'⟩ w') := by
  obtain ⟨d, h1, h2⟩ := ob_some.1 h
  cases c : isIntD d with
  | true =>
    cases d <;> simp [isIntD] at c
    simp only at h2
    obtain ⟨ti, h3, h4⟩ := ob_some.1 h2
    obtain ⟨z, h5, h6⟩ := ob_some.1 h4
    obtain ⟨k, h7, h8⟩ := ob_some.1 h6
    obtain ⟨h9, h10⟩ := gd_some.1 h8
    cases h10
    simp only [Bool.and_eq_true] at h9
    obtain ⟨b1, b2, b3⟩ := of_decide_eq_true h9.1
    obtain ⟨hz, hp⟩ := run_zero h5 w
    obtain ⟨kk, ek⟩ := intV_ok h7 hx
    have hzs : z.cells.size = e.2 := by simpa using Nat.eq_of_beq_eq_true h9.2
    refine ⟨_, k.toNat, rep z.cells.toList k.toNat, h1, ((pl_rv (D := D) 4 z hp).cells).rep _, by rw [rep_len, ← hzs]; simp, fun _ => ⟨kk, ti.i, z, by rw [ek]; congr 1; omega, by omega, typ_ok h3, b3, h5, rfl, hzs⟩, fun h => by cases h⟩
  | false =>
    have h2' : cellsOfV S e.2 x = some l := by cases d <;> simp [isIntD] at c <;> exact h2
    obtain ⟨m, l', q1, q3, q4⟩ := cellsOf_ok (P := P) hS h2' hx
    exact ⟨d, m, l', h1, q3, q4, fun h => (by simp [c] at h), fun _ => q1⟩

/-- the row, written beyond what is known or moved, under a new number -/
theorem RS.moved (hS : RS D S w) (hD : D S.n = none) {i : Nat} {o o' : VObj} {l l' : Loc} (hi : S.h.get i = some o) (hl : D i = some l) {w' : World} {ob : Obj} (hw : Wr w w' l.b ob) (hb : l'.b = l.b) (ho : RO (D.up S.n l') l' o' ob) :
    RS (D.up S.n l') (killV (newV S o') i) w' ∧ Fr D S w (D.up S.n l') (killV (newV S o') i) w' := by
  have le := Dm.le_up (l := l') hD
  have hin : i < S.n := hS.lt i o hi
  have hg : ∀ j, (killV (newV S o') i).h.get j = if j = i then none else if j = S.n then some o' else S.h.get j := fun j => by
    show ((S.h.set (some o') S.n).set none i).get j = _
    rw [Tr.get_set, Tr.get_set]
  have hdn : ∀ j, j ≠ S.n → (D.up S.n l') j = D j := fun j hj => by simp [Dm.up, hj]
  have hwm : (killV (newV S o') i).wm = min S.wm i := putV_wm (newV S o') i (.siter default 0)
  refine ⟨⟨⟨fun j oj hj => ?_, fun j k o1 o2 l1 l2 hj hk hl1 hl2 e => ?_⟩, fun j oj hj => ?_⟩, ⟨Nat.le_succ _, fun j hj => hdn j ?_, le, Nat.le_of_eq hw.size.symm, hw.os, hw.tape, hw.output, fun k hk hn => hw.ne k fun e => hn i o l hi hl e.symm, fun j oj lj hj hlj => ?_, by rw [hwm]; omega, fun j hj hm => ?_⟩⟩
  · rw [hg] at hj
    by_cases c : j = i
    · rw [if_pos c] at hj; cases hj
    · rw [if_neg c] at hj
      by_cases c2 : j = S.n
      · rw [if_pos c2] at hj; cases hj; subst c2
        exact ⟨l', ob, Dm.up_self _ _ _, by rw [hb]; exact hw.at_, ho⟩
      · rw [if_neg c2] at hj
        obtain ⟨lj, ob', h1, h2, h3⟩ := hS.rh.blk j oj hj
        exact ⟨lj, ob', le _ _ h1, (hw.ne _ fun e => c (hS.rh.inj j i oj o lj l hj hi h1 hl e)).trans h2, h3.mono le⟩
  · rw [hg] at hj hk
    by_cases cj : j = i
    · rw [if_pos cj] at hj; cases hj
    · by_cases ck : k = i
      · rw [if_pos ck] at hk; cases hk
      · rw [if_neg cj] at hj
        rw [if_neg ck] at hk
        by_cases dj : j = S.n
        · by_cases dk : k = S.n
          · exact dj.trans dk.symm
          · exfalso
            rw [if_neg dk] at hk
            rw [hdn k dk] at hl2
            subst dj
            rw [Dm.up_self] at hl1; cases hl1
            exact ck (hS.rh.inj k i o2 o l2 l hk hi hl2 hl (by rw [← e, hb]))
        · by_cases dk : k = S.n
          · exfalso
            rw [if_neg dj] at hj
            rw [hdn j dj] at hl1
            subst dk
            rw [Dm.up_self] at hl2; cases hl2
            exact cj (hS.rh.inj j i o1 o l1 l hj hi hl1 hl (by rw [e, hb]))
          · rw [if_neg dj] at hj
            rw [if_neg dk] at hk
            rw [hdn j dj] at hl1
            rw [hdn k dk] at hl2
            exact hS.rh.inj j k o1 o2 l1 l2 hj hk hl1 hl2 e
  · rw [hg] at hj
    show j < S.n + 1
    by_cases c : j = i
    · rw [if_pos c] at hj; cases hj
    · rw [if_neg c] at hj
      by_cases c2 : j = S.n
      · omega
      · rw [if_neg c2] at hj; have := hS.lt j oj hj; omega
  · rcases hj with hj | hj
    · omega
    · have : S.n + 1 ≤ j := hj; omega
  · rw [hg] at hj
    by_cases c : j = i
    · rw [if_pos c] at hj; cases hj
    · rw [if_neg c] at hj
      by_cases c2 : j = S.n
      · subst c2; rw [Dm.up_self] at hlj; cases hlj
        exact .inr ⟨i, o, l, hi, hl, hb.symm⟩
      · rw [if_neg c2] at hj; rw [hdn j c2] at hlj
        exact .inr ⟨j, oj, lj, hj, hlj, rfl⟩
  · rw [hwm] at hm
    rw [hg, if_neg (by omega), if_neg (by omega)]

theorem wrap_i64 {n : Int} (h0 : 0 ≤ n) (h1 : n ≤ 100000) : IntKind.i64.wrap n = n := by
  simp [IntKind.wrap, IntKind.bits, IntKind.signed]; omega

set_option maxHeartbeats 4000000 in
/-- append, as the model carries it out -/
theorem run_append {at_ : Array TypeId} {ty t t2 : TypeId} {e : TypeId × Nat} {ti : TypeInfo} {z : Value} {base : Option Addr} {len rc m : Nat} {y : Value} {d : TypeDesc} {l' : List Value}
    (h0 : at_[0]? = some t) (h1 : at_[1]? = some t2) (ht : und (envH P H) t = some (.slice e.1)) (hs : sz (envH P H) e.1 = some e.2) (hi : P.info? e.1 = some ti) (hb : ti.bytes ≤ 100000) (hz : zer (envH P H) e.1 = some z) (hzs : z.cells.size = e.2) (_he : 0 < e.2) (hd : und (envH P H) t2 = some d)
    (hy1 : isIntD d = true → ∃ k, y = .int k m ∧ m ≤ 100000 ∧ l' = rep z.cells.toList m)
    (hy0 : isIntD d = false → ∀ w', (w' = w ∨ w' = w.drew) → (Builtin.lenOf y).run P w' = .ok m w' ∧ (Builtin.firstCells e.2 m y).run P w' = .ok ⟨l'⟩ w')
    (hlm : len ≤ 100000 ∧ m ≤ 100000) :
    (len + m ≤ rc → (Builtin.append_ at_ ty #[.slice base len rc, y]).run P w = ((match base with | some a => storeCells (a.add (len * e.2)) l' | none => pure () : Sem Unit).run P w).andThen fun _ w' => .ok (.slice base (len + m) rc) w') ∧
    (rc < len + m → ∀ ol : List Value, (Builtin.firstCells e.2 len (.slice base len rc)).run P w.drew = .ok ⟨ol⟩ w.drew → ∃ nc, len + m ≤ nc ∧ (Builtin.append_ at_ ty #[.slice base len rc, y]).run P w = .ok (.slice (some ⟨w.heap.size, 0, none⟩) (len + m) nc) (w.drew.alloc (.cells ⟨ol ++ l' ++ rep z.cells.toList (nc - (len + m))⟩ e.1))) := by
  have hzr := fun w' => (run_zero hz w').1
  have hir := fun w' => run_info hi w'
  have zc : ∀ k, Builtin.zeroCells z.cells k = ⟨rep z.cells.toList k⟩ := fun k => zeroCells_rep z.cells k
  have hut := fun w' => run_under ht w'
  have hus := fun w' => run_size hs w'
  have hud := fun w' => run_under hd w'
  have hmax : ¬ (9223372036854775807 < (len : Int) + (m : Int)) := by omega
  constructor
  · intro hle
    cases c : isIntD d with
    | true =>
      obtain ⟨k, ey, hm, el⟩ := hy1 c
      subst ey
      have hw := wrap_i64 (n := (m : Int)) (by omega) (by omega)
      have h2 : ¬ (281474976710656 < (m : Int) * ti.bytes) := by
        have h1 : (m : Int) * ti.bytes ≤ 100000 * 100000 := Int.mul_le_mul (by omega) (by omega) (by omega) (by omega)
        omega
      cases d <;> simp [isIntD] at c
      by_cases hm0 : m * e.2 = 0
      · have hl0 : l' = [] := by
          rw [el]; apply List.eq_nil_of_length_eq_zero
          rw [rep_len]; simp [hzs, hm0]
        subst hl0
        cases base <;> simp [Builtin.append_, h0, h1, hut, hus, hud, asInt, asIntOf, hw, hir, h2, show ¬ ((m : Int) < 0) by omega, hle, hm0, storeCells]
      · cases base <;> simp [Builtin.append_, h0, h1, hut, hus, hud, asInt, asIntOf, hw, hir, h2, show ¬ ((m : Int) < 0) by omega, hle, hm0, hzr, zc, el]
    | false =>
      obtain ⟨q1, q2⟩ := hy0 c w (.inl rfl)
      cases base <;> cases d <;> first
        | (simp [isIntD] at c; done)
        | simp [Builtin.append_, h0, h1, hut, hus, hud, q1, q2, hle]
  · intro hlt ol hold
    have hnc : ¬ (281474976710656 < Builtin.nextslicecap (len + m) rc * ti.bytes) := by
      have h1 := nextcap_le hlt
      have h2 : Builtin.nextslicecap (len + m) rc * ti.bytes ≤ (len + m + (len + m) + 512) * 100000 := Nat.mul_le_mul h1 hb
      omega
    refine ⟨(len + m) + w.tape w.drawn (.appendCap (len + m) rc e.1) % (2 ^ 63 - (len + m)), Nat.le_add_right _ _, ?_⟩
    have hnle : ¬ (len + m ≤ rc) := by omega
    cases c : isIntD d with
    | true =>
      obtain ⟨k, ey, hm, el⟩ := hy1 c
      subst ey
      have hw := wrap_i64 (n := (m : Int)) (by omega) (by omega)
      have h2 : ¬ (281474976710656 < (m : Int) * ti.bytes) := by
        have h1 : (m : Int) * ti.bytes ≤ 100000 * 100000 := Int.mul_le_mul (by omega) (by omega) (by omega) (by omega)
        omega
      cases d <;> simp [isIntD] at c
      by_cases hm0 : m * e.2 = 0
      · have hl0 : l' = [] := by
          rw [el]; apply List.eq_nil_of_length_eq_zero
          rw [rep_len]; simp [hzs, hm0]
        subst hl0
        simp [Builtin.append_, h0, h1, hut, hus, hud, asInt, asIntOf, hw, hir, h2, show ¬ ((m : Int) < 0) by omega, hnle, hm0, hmax, hnc, Question.forced, Question.cut, hold, hzr, zc, newRow]
      · simp [Builtin.append_, h0, h1, hut, hus, hud, asInt, asIntOf, hw, hir, h2, show ¬ ((m : Int) < 0) by omega, hnle, hm0, hmax, hnc, Question.forced, Question.cut, hold, hzr, zc, newRow, el]
    | false =>
      obtain ⟨q1, q2⟩ := hy0 c w (.inl rfl)
      obtain ⟨q3, q4⟩ := hy0 c w.drew (.inr rfl)
      cases d <;> first
        | (simp [isIntD] at c; done)
        | simp [Builtin.append_, h0, h1, hut, hus, hud, q1, hnle, hmax, hnc, hir, Question.forced, Question.cut, hold, q4, hzr, zc, newRow]
end
end Go.Ex
