/-
  The evaluator's operations that touch memory: rows.
-/
/-
  The evaluator's operations that make blocks.
-/
import Derived.Test.YtombnejipaoinaaGreatExe
import Derived.Laws.Cells
namespace Go.Ex
open Go

section
variable {D : Dm} {n : Nat} {tm : Tm} {a : Act} {P : Program} {S : St} {w : World} {H : Hooks}

theorem cell_row {b : Nat} {rc : Array Value} {e : TypeId} {fr : Nat × Nat} (h : w.heap[b]? = some (.cells rc e fr)) (k : Nat) : w.cell? ⟨b, k, none⟩ = rc[k]? := by
  simp [World.cell?, h]
theorem RV.one {v r : Value} (h : RV D v r) : r.oneCell' = v.oneCell' := by cases h <;> rfl
theorem RL.one {l l' : List Value} (h : RL D l l') (hl : l.all (·.oneCell') = true) : ∀ v ∈ l', v.oneCell' = true := by
  intro v hv
  obtain ⟨i, hi⟩ := List.mem_iff_getElem?.1 hv
  have : i < l.length := by rw [h.1]; exact (List.getElem?_eq_some_iff.1 hi).1
  have h2 := h.2 i l[i] v (List.getElem?_eq_getElem this) hi
  rw [h2.one]
  exact List.all_eq_true.1 hl _ (List.getElem_mem this)

/-- a row and the real cells -/
theorem RS.row (h : RS D S w) {i : Nat} {cs : List Value} {e : TypeId} (hr : rowV S i = some (cs, e)) : ∃ l rc lo hi, S.h.get i = some (.row cs e) ∧ D i = some l ∧ w.heap[l.b]? = some (.cells rc e (lo, hi)) ∧ rc.size = l.c ∧ cs.length + l.sh ≤ rc.size ∧ RL D cs ((rc.toList.drop l.sh).take cs.length) ∧ (hi ≤ lo ∨ rc.size ≤ lo) := by
  obtain ⟨o, h1, h2⟩ := ob_some.1 hr
  cases o with
  | row cs' e' =>
    simp only [Option.some.injEq, Prod.mk.injEq] at h2
    obtain ⟨rfl, rfl⟩ := h2
    obtain ⟨l, ob, h3, h4, h5⟩ := h.rh.blk i _ h1
    cases h5 with
    | row _ _ rc lo hi k1 k2 k3 k4 =>
      refine ⟨l, rc, lo, hi, h1, h3, h4, k1, k2, ⟨by simp; omega, fun j x y hx hy => ?_⟩, k4⟩
      obtain ⟨z, h6, h7⟩ := k3 j x hx
      have hj : j < cs'.length := (List.getElem?_eq_some_iff.1 hx).1
      rw [List.getElem?_take_of_lt hj, List.getElem?_drop, Array.getElem?_toList, Nat.add_comm] at hy
      rw [h6] at hy; cases hy
      exact h7
  | _ => simp at h2

theorem run_loadC {b k : Nat} {rc : Array Value} {e : TypeId} {fr : Nat × Nat} (h : w.heap[b]? = some (.cells rc e fr)) (l : List Value) (hl : ∀ i x, l[i]? = some x → rc[k + i]? = some x) : (loadCells ⟨b, k, none⟩ l.length).run P w = .ok ⟨l⟩ w := by
  have := run_loadCells_list (P := P) (w := w) ⟨b, k, none⟩ l (fun j v hv => by rw [add_none, cell_row h]; exact hl j v hv)
  exact this

/-- loading -/
theorem ldV_ok (hS : RS D S w) {t : TypeId} {s : Bool × Nat} (hs : shp (envH P H) t = some s) {p r v : Value} (h : ldV S s p = some v) (hp : RV D p r) : ∃ u, (Instr.loadAt t r).run P w = .ok u w ∧ RV D v u := by
  obtain ⟨q, h1, h2⟩ := ob_some.1 h
  obtain ⟨x, h3, h4⟩ := ob_some.1 h2
  obtain ⟨cs, e⟩ := x
  obtain ⟨l, hl, er, -⟩ := adr_ok h1 hp
  obtain ⟨l', rc, lo, hi, k0, k1, k2, k3, k4, k5, k6⟩ := hS.row h3
  rw [hl] at k1; cases k1
  subst er
  obtain ⟨g1, g2⟩ := run_shp hs w
  obtain ⟨b, m⟩ := s
  simp only at h4 g1 g2
  have old : ∀ (i : Nat) (y : Value), ((rc.toList.drop l.sh).take cs.length)[i]? = some y → rc[i + l.sh]? = some y := fun i y hy => by
    have hi : i < cs.length := by
      have := (List.getElem?_eq_some_iff.1 hy).1
      simp at this; omega
    rw [List.getElem?_take_of_lt hi, List.getElem?_drop, Array.getElem?_toList, Nat.add_comm] at hy
    exact hy
  cases b with
  | false =>
    obtain ⟨y, h5, h6⟩ := k5.get h4
    refine ⟨y, ?_, h6⟩
    have hc : w.cell? ⟨l.b, q.2 + l.sh, none⟩ = some y := by rw [cell_row k2]; exact old _ _ h5
    simp [Instr.loadAt, Instr.sureAddr, loadVar, g1, hc]
  | true =>
    obtain ⟨c1, h5, h6⟩ := ob_some.1 h4
    cases h6
    obtain ⟨c2, h7, h8⟩ := k5.takeX h5
    obtain ⟨h9, h10⟩ := takeX_ok (D := D) h7
    refine ⟨.agg ⟨c2⟩, ?_, RV.agg' h8⟩
    have := run_loadC (P := P) (k := q.2 + l.sh) k2 c2 (fun i x hx => by
      have := old _ _ (h10 i x hx)
      rw [show q.2 + l.sh + i = q.2 + i + l.sh by omega]; exact this)
    rw [h9] at this
    simp [Instr.loadAt, Instr.sureAddr, loadVar, g1, g2, this]

theorem frozen_row {b : Nat} {rc : Array Value} {e : TypeId} {lo hi k : Nat} (h : w.heap[b]? = some (.cells rc e (lo, hi))) (hf : hi ≤ lo ∨ rc.size ≤ lo) (hk : k < rc.size) : w.frozen? ⟨b, k, none⟩ = false := by
  simp only [World.frozen?, h]
  simp; omega

/-- storing cells -/
theorem run_storeC {b : Nat} {e : TypeId} {lo hi : Nat} : ∀ (vs : List Value) (k i : Nat) (rc : Array Value) (w : World), w.heap[b]? = some (.cells rc e (lo, hi)) → (hi ≤ lo ∨ rc.size ≤ lo) → k + i + vs.length ≤ rc.size → (∀ v ∈ vs, v.oneCell' = true) →
    ∃ w' rc', (storeCells ⟨b, k, none⟩ vs i).run P w = .ok () w' ∧ Wr w w' b (.cells rc' e (lo, hi)) ∧ rc'.size = rc.size ∧ ∀ j, rc'[j]? = if k + i ≤ j ∧ j < k + i + vs.length then vs[j - (k + i)]? else rc[j]?
  | [], k, i, rc, w, h, hf, hl, ho => ⟨w, rc, rfl, ⟨rfl, h, fun _ _ => rfl, rfl, rfl, rfl⟩, rfl, fun j => by rw [if_neg (by simp <;> omega)]⟩
  | v :: vs, k, i, rc, w, h, hf, hl, ho => by
    simp only [List.length_cons] at hl
    have hb : b < w.heap.size := by
      rcases Nat.lt_or_ge b w.heap.size with c | c
      · exact c
      · rw [Array.getElem?_eq_none c] at h; cases h
    have hc : w.cell? ⟨b, k + i, none⟩ = some rc[k + i] := by rw [cell_row h]; exact Array.getElem?_eq_getElem (by omega)
    have h1 : (w.setCell ⟨b, k + i, none⟩ v).heap[b]? = some (.cells (rc.setIfInBounds (k + i) v) e (lo, hi)) := by
      simp [World.setCell, Array.getElem?_modify, h]
    obtain ⟨w', rc', g1, g2, g3, g4⟩ := run_storeC vs k (i + 1) (rc.setIfInBounds (k + i) v) (w.setCell ⟨b, k + i, none⟩ v) h1 (by simpa using hf) (by simp; omega) (fun x hx => ho x (List.mem_cons_of_mem _ hx))
    refine ⟨w', rc', ?_, ⟨?_, g2.at_, fun j hj => ?_, g2.os, g2.tape, g2.output⟩, by rw [g3]; simp, fun j => ?_⟩
    · simp only [storeCells, Sem.run_bind, add_none, run_store P w _ v .plain (ho v (List.mem_cons_self ..)), hc, frozen_row h hf (show k + i < rc.size by omega), Bool.false_eq_true, if_false, Result.andThen_ok]
      exact g1
    · rw [g2.size]; simp
    · rw [g2.ne j hj]
      simp [World.setCell, Array.getElem?_modify]
      intro e'; exact absurd e'.symm hj
    · rw [g4]
      by_cases c : k + (i + 1) ≤ j ∧ j < k + (i + 1) + vs.length
      · rw [if_pos c, if_pos (by simp; omega), show j - (k + i) = (j - (k + (i + 1))) + 1 by omega, List.getElem?_cons_succ]
      · rw [if_neg c]
        by_cases e' : j = k + i
        · subst e'
          rw [if_pos (by simp)]
          simp [show k + i < rc.size by omega]
        · rw [if_neg (by simp; omega), Array.getElem?_setIfInBounds_ne (by omega)]

/-- a row written -/
theorem RS.putRow (hS : RS D S w) {i off : Nat} {cs cs' vs vs' : List Value} {e : TypeId} {l : Loc} (hr : rowV S i = some (cs, e)) (hl : D i = some l) (hx : setX cs off vs = some cs') (hv : RL D vs vs') (ho : vs.all (·.oneCell') = true) :
    ∃ w', (storeCells ⟨l.b, off + l.sh, none⟩ vs').run P w = .ok () w' ∧ RS D (putV S i (.row cs' e)) w' ∧ Fr D S w D (putV S i (.row cs' e)) w' := by
  obtain ⟨l', rc, lo, hi, k0, k1, k2, k3, k4, k5, k6⟩ := hS.row hr
  rw [hl] at k1; cases k1
  obtain ⟨x1, x2, x3⟩ := setX_ok hx
  have hlen := hv.1
  obtain ⟨w', rc', g1, g2, g3, g4⟩ := run_storeC (P := P) vs' (off + l.sh) 0 rc w k2 k6 (by omega) (hv.one ho)
  have old : ∀ (j : Nat) (x : Value), cs[j]? = some x → ∃ y, rc[j + l.sh]? = some y ∧ RV D x y := fun j x hx => by
    obtain ⟨y, hy, hr⟩ := k5.get hx
    have hj : j < cs.length := (List.getElem?_eq_some_iff.1 hx).1
    rw [List.getElem?_take_of_lt hj, List.getElem?_drop, Array.getElem?_toList, Nat.add_comm] at hy
    exact ⟨y, hy, hr⟩
  have ro : RO D l (.row cs' e) (.cells rc' e (lo, hi)) := by
    refine .row cs' e rc' lo hi (by rw [g3]; exact k3) (by rw [g3, x1]; exact k4) (fun j x hj => ?_) (by rw [g3]; exact k6)
    rw [x3] at hj
    rw [g4]
    by_cases c : off ≤ j ∧ j < off + vs.length
    · rw [if_pos c] at hj
      rw [if_pos (by omega), show j + l.sh - (off + l.sh + 0) = j - off by omega]
      obtain ⟨y, hy, hr'⟩ := hv.get hj
      exact ⟨y, hy, hr'⟩
    · rw [if_neg c] at hj
      rw [if_neg (by omega)]
      exact old j x hj
  exact ⟨w', g1, hS.put k0 hl g2 ro⟩

theorem stV_ok (hS : RS D S w) {t : TypeId} {m : Nat} (hs : sz (envH P H) t = some m) {p r v u : Value} {S' : St} (h : stV S m p v = some S') (hp : RV D p r) (hv : RV D v u) : ∃ w', (Instr.storeAt t r u).run P w = .ok () w' ∧ RS D S' w' ∧ Fr D S w D S' w' := by
  obtain ⟨q, h1, h2⟩ := ob_some.1 h
  obtain ⟨x, h3, h4⟩ := ob_some.1 h2
  obtain ⟨cs, e⟩ := x
  obtain ⟨h5, h6⟩ := gd_some.1 h4
  obtain ⟨cs', h7, h8⟩ := ob_some.1 h6
  cases h8
  simp only [Bool.and_eq_true] at h5
  obtain ⟨l, hl, er, -⟩ := adr_ok h1 hp
  subst er
  have hvc := hv.cells
  obtain ⟨w', g1, g2, g3⟩ := hS.putRow (P := P) h3 hl h7 hvc h5.2
  refine ⟨w', ?_, g2, g3⟩
  have hsz : u.cells.size = m := by
    have := Nat.eq_of_beq_eq_true h5.1
    have := hvc.1
    simp only [Array.length_toList] at *
    omega
  simp only [Instr.storeAt, Instr.sureAddr, Sem.run_bind, Sem.run_pure, Result.andThen_ok, storeVar, run_size hs, hsz, ne_eq, not_true_eq_false, if_false]
  exact g1
end
end Go.Ex

namespace Go.Ex
open Go

theorem rep_len (z : List Value) : ∀ n, (rep z n).length = n * z.length
  | 0 => by simp [rep]
  | n + 1 => by simp only [rep, List.length_append, rep_len z n, Nat.succ_mul]; omega
theorem rep_get (z : List Value) : ∀ (n i : Nat), i < n * z.length → (rep z n)[i]? = z[i % z.length]?
  | 0, i, h => by simp at h
  | n + 1, i, h => by
    simp only [rep]
    by_cases c : i < z.length
    · rw [List.getElem?_append_left c, Nat.mod_eq_of_lt c]
    · rw [List.getElem?_append_right (by omega), rep_get z n (i - z.length) (by rw [Nat.succ_mul] at h; omega), ← Nat.mod_eq_sub_mod (by omega)]
theorem rep_range (z : Array Value) (n : Nat) : ((Array.range (n * z.size)).map (fun i => z[i % z.size]!)).toList = rep z.toList n := by
  apply List.ext_getElem?
  intro i
  by_cases c : i < n * z.size
  · rw [rep_get _ _ _ (by simpa using c)]
    have hz : 0 < z.size := by
      rcases Nat.eq_zero_or_pos z.size with h | h
      · rw [h] at c; simp at c
      · exact h
    have hm := Nat.mod_lt i hz
    simp [c, hm]
  · rw [List.getElem?_eq_none (by simp; omega), List.getElem?_eq_none (by rw [rep_len]; simp; omega)]

section
variable {D : Dm} {n : Nat} {tm : Tm} {a : Act} {P : Program} {S : St} {w : World} {H : Hooks}

theorem RS.newRow (hS : RS D S w) (hD : D S.n = none) {cs rl : List Value} (e : TypeId) (hl : cs.length ≤ rl.length) (hr : RL D cs (rl.take cs.length)) {w' : World} (hw : w' = w.alloc (.cells ⟨rl⟩ e)) :
    D.le (D.up S.n ⟨w.heap.size, 0, rl.length⟩) ∧ RS (D.up S.n ⟨w.heap.size, 0, rl.length⟩) (newV S (.row cs e)) w' ∧ Fr D S w (D.up S.n ⟨w.heap.size, 0, rl.length⟩) (newV S (.row cs e)) w' := by
  subst hw
  have le := Dm.le_up (l := ⟨w.heap.size, 0, rl.length⟩) hD
  have ro : RO (D.up S.n ⟨w.heap.size, 0, rl.length⟩) ⟨w.heap.size, 0, rl.length⟩ (.row cs e) (.cells ⟨rl⟩ e (0, 0)) := by
    refine .row cs e ⟨rl⟩ 0 0 rfl (by simpa using hl) (fun i x hx => ?_) (.inl (Nat.le_refl _))
    obtain ⟨y, hy, hr'⟩ := hr.get hx
    have hi : i < cs.length := (List.getElem?_eq_some_iff.1 hx).1
    rw [List.getElem?_take_of_lt hi] at hy
    exact ⟨y, by simpa using hy, hr'.mono le⟩
  obtain ⟨h1, h2⟩ := hS.new hD ro
  exact ⟨le, h1, h2⟩
theorem RS.newRow' (hS : RS D S w) (hD : D S.n = none) {cs rl : List Value} (e : TypeId) (hr : RL D cs rl) {w' : World} (hw : w' = w.alloc (.cells ⟨rl⟩ e)) :
    ∃ D', D.le D' ∧ D' S.n = some ⟨w.heap.size, 0, rl.length⟩ ∧ RS D' (newV S (.row cs e)) w' ∧ Fr D S w D' (newV S (.row cs e)) w' := by
  obtain ⟨h1, h2, h3⟩ := hS.newRow hD e (Nat.le_of_eq hr.1) (by rw [hr.1, List.take_length]; exact hr) hw
  exact ⟨_, h1, Dm.up_self _ _ _, h2, h3⟩

/-- what an operation hands on -/
inductive NV : Next → Value → Prop
  | value (r : Value) : NV (.value r) r
  | skip : NV .skip undef

/-- an operation carried out -/
def Did (P : Program) (D : Dm) (S : St) (w : World) (o : Oper) (a : Act) (v : Value) (S' : St) : Prop :=
  ∃ D' nx r w', (execOp a.eval o).run P w = .ok nx w' ∧ NV nx r ∧ RV D' v r ∧ RS D' S' w' ∧ Fr D S w D' S' w'

variable {dst : Option Tmp} {ty : TypeId} {pos : String} {after : Array Edge} {guard : Option (Nat × Bool)}

theorem alloc_ok (_hT : RT D n tm a) (hS : RS D S w) {t : TypeId} {v : Value} {S' : St} (h : heapV (envH P H) tm S (.alloc t) = some (v, S')) (hf : ∀ i, S.n ≤ i → i < S'.n → D i = none) : Did P D S w ⟨dst, .alloc t, ty, pos, after, guard⟩ a v S' := by
  obtain ⟨z, h1, h2⟩ := ob_some.1 h
  simp only [Option.some.injEq, Prod.mk.injEq] at h2
  obtain ⟨rfl, rfl⟩ := h2
  obtain ⟨hz, hp⟩ := run_zero h1 w
  obtain ⟨D', q1, q2, q3, q4⟩ := hS.newRow' (hf _ (Nat.le_refl _) (Nat.lt_succ_self _)) t (pl_rv (D := D) 4 z hp).cells rfl
  refine ⟨D', _, .pointer (some ⟨w.heap.size, 0, none⟩), _, ?_, .value _, .ptr S.n 0 _ q2, q3, q4⟩
  simp only [execOp]
  simp [Instr.alloc, hz, newVar, newRow]
theorem box_ok (hT : RT D n tm a) (hS : RS D S w) {t : TypeId} {x : Operand} {v : Value} {S' : St} (h : heapV (envH P H) tm S (.box t x) = some (v, S')) (hf : ∀ i, S.n ≤ i → i < S'.n → D i = none) : Did P D S w ⟨dst, .box t x, ty, pos, after, guard⟩ a v S' := by
  obtain ⟨u, h1, h2⟩ := ob_some.1 h
  simp only [Option.some.injEq, Prod.mk.injEq] at h2
  obtain ⟨rfl, rfl⟩ := h2
  obtain ⟨D', q1, q2, q3, q4⟩ := hS.newRow' (hf _ (Nat.le_refl _) (Nat.lt_succ_self _)) t (evO_ok hT h1).cells rfl
  refine ⟨D', _, .pointer (some ⟨w.heap.size, 0, none⟩), _, ?_, .value _, .ptr S.n 0 _ q2, q3, q4⟩
  simp only [execOp]
  simp [Instr.box, newVar, newRow]
theorem load_ok (hT : RT D n tm a) (hS : RS D S w) {t : TypeId} {x : Operand} {v : Value} {S' : St} (h : heapV (envH P H) tm S (.load t x) = some (v, S')) : Did P D S w ⟨dst, .load t x, ty, pos, after, guard⟩ a v S' := by
  obtain ⟨s, h1, h2⟩ := ob_some.1 h
  obtain ⟨p, h3, h4⟩ := ob_some.1 h2
  obtain ⟨r, h5, h6⟩ := ob_some.1 h4
  simp only [Option.some.injEq, Prod.mk.injEq] at h6
  obtain ⟨rfl, rfl⟩ := h6
  obtain ⟨u, q1, q2⟩ := ldV_ok hS h1 h5 (evO_ok hT h3)
  exact ⟨D, _, u, w, run_v q1, .value _, q2, hS, Fr.refl _ _ _⟩
theorem store_ok (hT : RT D n tm a) (hS : RS D S w) {t : TypeId} {x y : Operand} {v : Value} {S' : St} (h : heapV (envH P H) tm S (.store t x y) = some (v, S')) : Did P D S w ⟨dst, .store t x y, ty, pos, after, guard⟩ a v S' := by
  obtain ⟨m, h1, h2⟩ := ob_some.1 h
  obtain ⟨p, h3, h4⟩ := ob_some.1 h2
  obtain ⟨u, h5, h6⟩ := ob_some.1 h4
  obtain ⟨S1, h7, h8⟩ := ob_some.1 h6
  simp only [Option.some.injEq, Prod.mk.injEq] at h8
  obtain ⟨rfl, rfl⟩ := h8
  obtain ⟨w', q1, q2, q3⟩ := stV_ok hS h1 h7 (evO_ok hT h3) (evO_ok hT h5)
  refine ⟨D, .skip, undef, w', ?_, .skip, RV.tuple' RL.nil, q2, q3⟩
  simp only [execOp]
  simp [q1]

theorem slcSelf {D' : Dm} {m : Nat} {l : Loc} (h : D' m = some l) (hs : l.sh = 0) (k c : Nat) (hc : c < BIG) : RV D' (.slice (some ⟨m, 0, none⟩) k c) (.slice (some ⟨l.b, 0, none⟩) k c) := by
  have := RV.slc (D := D') m 0 l k c h hc
  rw [hs] at this; exact this

theorem buildSlice_ok (hT : RT D n tm a) (hS : RS D S w) {t : TypeId} {len : Nat} {parts : Array (Nat × Operand)} {v : Value} {S' : St} (h : heapV (envH P H) tm S (.buildSlice t len parts) = some (v, S')) (hf : ∀ i, S.n ≤ i → i < S'.n → D i = none) : Did P D S w ⟨dst, .buildSlice t len parts, ty, pos, after, guard⟩ a v S' := by
  obtain ⟨e, h1, h2⟩ := ob_some.1 h
  obtain ⟨z, h3, h4⟩ := ob_some.1 h2
  obtain ⟨ps, h5, h6⟩ := ob_some.1 h4
  obtain ⟨h7, h8⟩ := gd_some.1 h6
  obtain ⟨cs, h9, h10⟩ := ob_some.1 h8
  simp only [Option.some.injEq, Prod.mk.injEq] at h10
  obtain ⟨rfl, rfl⟩ := h10
  simp only [Bool.and_eq_true] at h7
  have hb : len * e.2 ≤ 16777216 := Nat.le_of_ble_eq_true h7.1.1
  have hz0 : z.cells.size = e.2 := by simpa using Nat.eq_of_beq_eq_true h7.1.2
  have hb2 : len ≤ 16777216 := Nat.le_of_ble_eq_true h7.2
  obtain ⟨hz, hp⟩ := run_zero h3 w
  obtain ⟨k1, k2⟩ := run_elS h1
  obtain ⟨hp1, hp2⟩ := evP_ok hT h5
  have hrz : RL D (rep z.cells.toList len) (rep z.cells.toList len) := ((pl_rv (D := D) 4 z hp).cells).rep len
  obtain ⟨c', h11, h12⟩ := fill_ok (D := D) (pr := fun i => some (i * e.2, e.2)) (ps' := parts.toList.map fun x => (x.1, a.eval x.2)) (fun i x hx => hx) h9 (by rw [List.map_map, hp1]; rfl) (by rw [List.map_map]; exact hp2) hrz
  obtain ⟨D', q1, q2, q3, q4⟩ := hS.newRow' (hf _ (Nat.le_refl _) (Nat.lt_succ_self _)) e.1 h12 rfl
  refine ⟨D', _, .slice (some ⟨w.heap.size, 0, none⟩) len len, _, ?_, .value _, slcSelf q2 rfl len len (by unfold BIG; omega), q3, q4⟩
  have hm : (parts.map fun (x : Nat × Operand) => (x.1, a.eval x.2)).toList = parts.toList.map fun x => (x.1, a.eval x.2) := by simp
  have hbs : (Instr.buildSlice t len (parts.map fun (x : Nat × Operand) => (x.1, a.eval x.2))).run P w = .ok (.slice (some ⟨w.heap.size, 0, none⟩) len len) (w.alloc (.cells ⟨c'⟩ e.1)) := by
    simp only [Instr.buildSlice, Sem.run_bind, run_under k1, Result.andThen_ok, run_size k2, if_neg (show ¬ len * e.2 > 2 ^ 24 by omega), hm]
    by_cases c : len * e.2 = 0
    · have hcells : (Array.range (len * e.2)).map (fun i => (#[] : Array Value)[i % (#[] : Array Value).size]!) = ⟨rep z.cells.toList len⟩ := by
        have : rep z.cells.toList len = [] := by
          apply List.eq_nil_of_length_eq_zero
          rw [rep_len]; simp [hz0, c]
        rw [c, this]; simp
      rw [if_pos c]
      simp only [Sem.run_bind, Sem.run_pure, Result.andThen_ok, hcells]
      rw [h11]
      simp [newRow]
    · have hcells : (Array.range (len * e.2)).map (fun i => z.cells[i % z.cells.size]!) = ⟨rep z.cells.toList len⟩ := by
        rw [← hz0, ← rep_range]
      rw [if_neg c]
      simp only [Sem.run_bind, Sem.run_pure, Result.andThen_ok, hz, hcells]
      rw [h11]
      simp [newRow]
  exact run_v hbs

theorem makeSlice_ok (hT : RT D n tm a) (hS : RS D S w) {t : TypeId} {x y : Operand} {v : Value} {S' : St} (h : heapV (envH P H) tm S (.makeSlice t x y) = some (v, S')) (hf : ∀ i, S.n ≤ i → i < S'.n → D i = none) : Did P D S w ⟨dst, .makeSlice t x y, ty, pos, after, guard⟩ a v S' := by
  obtain ⟨e, h1, h2⟩ := ob_some.1 h
  obtain ⟨ti, h3, h4⟩ := ob_some.1 h2
  obtain ⟨z, h5, h6⟩ := ob_some.1 h4
  obtain ⟨lv, h7, h8⟩ := ob_some.1 h6
  obtain ⟨l, h9, h10⟩ := ob_some.1 h8
  obtain ⟨cv, h11, h12⟩ := ob_some.1 h10
  obtain ⟨c, h13, h14⟩ := ob_some.1 h12
  obtain ⟨h15, h16⟩ := gd_some.1 h14
  simp only [Option.some.injEq, Prod.mk.injEq] at h16
  obtain ⟨rfl, rfl⟩ := h16
  simp only [Bool.and_eq_true] at h15
  obtain ⟨b1, b2, b3, b4⟩ := of_decide_eq_true h15.1
  have hz0 : z.cells.size = e.2 := by simpa using Nat.eq_of_beq_eq_true h15.2
  obtain ⟨hz, hp⟩ := run_zero h5 w
  obtain ⟨k1, k2⟩ := run_elS h1
  obtain ⟨kl, el⟩ := intV_ok h9 (evO_ok hT h7)
  obtain ⟨kc, ec⟩ := intV_ok h13 (evO_ok hT h11)
  have hrz : RL D (rep z.cells.toList c.toNat) (rep z.cells.toList c.toNat) := ((pl_rv (D := D) 4 z hp).cells).rep _
  obtain ⟨D', q1, q2, q3, q4⟩ := hS.newRow' (hf _ (Nat.le_refl _) (Nat.lt_succ_self _)) e.1 hrz rfl
  refine ⟨D', _, .slice (some ⟨w.heap.size, 0, none⟩) l.toNat c.toNat, _, ?_, .value _, slcSelf q2 rfl _ _ (by unfold BIG; omega), q3, q4⟩
  have wl : IntKind.i64.wrap l = l := by
    simp [IntKind.wrap, IntKind.bits, IntKind.signed]; omega
  have wc : IntKind.i64.wrap c = c := by
    simp [IntKind.wrap, IntKind.bits, IntKind.signed]; omega
  have hi := run_info (typ_ok h3) w
  have hbytes : ¬ ((ti.i.bytes : Int) * c > 2 ^ 48) := by
    have h1 : (ti.i.bytes : Int) * c ≤ 100000 * 100000 := Int.mul_le_mul (by omega) b3 (by omega) (by omega)
    omega
  have hms : (Instr.makeSlice t (a.eval x) (a.eval y)).run P w = .ok (.slice (some ⟨w.heap.size, 0, none⟩) l.toNat c.toNat) (w.alloc (.cells ⟨rep z.cells.toList c.toNat⟩ e.1)) := by
    rw [el, ec]
    simp only [Instr.makeSlice, Sem.run_bind, run_under k1, Result.andThen_ok, asInt, asIntOf, Sem.run_pure, hi, wl, wc]
    rw [if_neg (by simp only [Bool.or_eq_true, decide_eq_true_eq, not_or]; refine ⟨⟨⟨by omega, hbytes⟩, by omega⟩, by omega⟩)]
    simp only [Sem.run_bind, run_askRoom, Result.andThen_ok, run_size k2]
    by_cases c0 : c.toNat * e.2 = 0
    · have hcells : (Array.range (c.toNat * e.2)).map (fun i => (#[] : Array Value)[i % (#[] : Array Value).size]!) = ⟨rep z.cells.toList c.toNat⟩ := by
        have : rep z.cells.toList c.toNat = [] := by
          apply List.eq_nil_of_length_eq_zero
          rw [rep_len]; simp [hz0, c0]
        rw [c0, this]; simp
      rw [if_pos c0]
      simp only [Sem.run_bind, Sem.run_pure, Result.andThen_ok, hcells, newRow, run_newObj]
      rfl
    · have hcells : (Array.range (c.toNat * e.2)).map (fun i => z.cells[i % z.cells.size]!) = ⟨rep z.cells.toList c.toNat⟩ := by
        rw [← hz0, ← rep_range]
      rw [if_neg c0]
      simp only [Sem.run_bind, Sem.run_pure, Result.andThen_ok, hz, hcells, newRow, run_newObj]
      rfl
  exact run_v hms
end
end Go.Ex
