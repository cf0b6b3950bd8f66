/-
  inter.least: the least cost for each key; numbers as keys.
-/
/-
  inter.summarized: plain.
-/
import Derived.Test.YtogdconliofblaaGreatTks
import Derived.Maps.Keyed
namespace Go.Proofs.YtogdconliofblaaGreat
open Go.RowKit

def intLit (q : IntKind) (x : Int) : Lit := .int q x
theorem int_keyIs {P : Program} {k : TypeId} {q : IntKind} (hk : P.underlying k = some (.int q)) : KeyIs P k (fun x : Int => (Lit.int q x).wf = true) (Value.int q) (intLit q) where
  keyed := Maps.int_keyed hk
  of x hx := by
    unfold intLit
    rw [keyOf_int hk]
    simp [mapKey, hk, hx]
  inv v l h := by
    rw [keyOf_int hk] at h
    cases v <;> simp [mapKey, hk] at h
    obtain ⟨⟨rfl, hw⟩, _⟩ := h
    exact ⟨_, hw, rfl⟩
  inj x y h := by cases h; rfl

/-- the least cost is kept -/
def leastF {α : Type} [DecidableEq α] (f : α → Option Int) (x : α) (c : Int) : α → Option Int :=
  match f x with
  | none => upd f x c
  | some old => if c < old then upd f x c else f

def costV (c : Int) : Value := .int .i64 c
theorem Tryz.zeroInt (w : World) : (zeroValue 3).run Tryz.prog w = .ok (.int .i64 0) w := by kernel_rfl

set_option maxHeartbeats 4000000 in
theorem leastp_calls (w : World) (mb n : Nat) (f : Ls.Pfx → Option Int) (h : MapF Tryz.prog 55 pfxOk pfxLit costV w mb n f) (hn : n < maxLen) (p : Ls.Pfx) (hp : pfxOk p) (c : Int) :
    Calls Tryz.prog 75 #[.map (some mb), .agg #[.int .u32 p.addr, .int .i64 p.len], .int .i64 c] w fun e w' => e = .returned (.tuple #[]) ∧ MapF Tryz.prog 55 pfxOk pfxLit costV w' mb (n + 1) (leastF f p c) ∧ w.grownBy w' (some mb) := by
  have HP := Lib.hid hp
  have HN := Lib.hid hn
  obtain ⟨W0, hW0⟩ : ∃ W0, w.alloc (.cells #[.int .u32 p.addr, .int .i64 p.len] 55) = W0 := ⟨_, rfl⟩
  have B0 : Below w.heap.size w W0 := by rw [← hW0]; exact (Below.refl _ _).alloc (Nat.le_refl _) _
  have b0 : W0.heap[w.heap.size]? = some (.cells #[.int .u32 p.addr, .int .i64 p.len] 55 (0, 0)) := by rw [← hW0]; exact alloc_new w _
  have M0 := Lib.hid (h.grow B0)
  have HB0 : Hid (w.grownBy W0 (some mb)) := Lib.hid ⟨B0.os, B0.tape, B0.output, B0.size, fun k hk _ => B0.block k hk⟩
  obtain ⟨pa, pl⟩ := p
  simp only at *
  have p0 := blk_cell (i := 0) b0 rfl
  have p1 := blk_cell (i := 1) b0 rfl
  have HW0 := Lib.hid hW0
  clear hW0 b0 B0 h hp hn
  unfold leastF
  cases hf : f ⟨pa, pl⟩ with
  | none =>
    have HF := Lib.hid hf
    clear hf
    go_enter Tryz.func75, Tryz.ntmps75
    go_upto_region 1 with fail
    rw [HW0.out]
    go_wp2_with (first
      | (at_lookup; refine wpList_look_none _ rfl _ _ 79 rfl 3 Tryz.pfxKey Tryz.underlying79 (Tryz.zeroInt _) mb n f rfl M0.out ⟨pa, pl⟩ rfl HP.out HF.out ?_)
      | (at_mapUpdate; refine wpList_mput _ rfl _ _ _ 79 rfl 3 Tryz.pfxKey Tryz.underlying79 mb n f rfl M0.out HN.out ⟨pa, pl⟩ rfl HP.out c rfl ?_; intro w6 M6 G6; have NX := Lib.hid M6; have NG := Lib.hid (HB0.out.andThen G6 (fun j hj => .inr hj.symm.symm)); clear M6 G6))
    go_end0
    exact ⟨rfl, NX.out, NG.out⟩
  | some old =>
    have HF := Lib.hid hf
    clear hf
    by_cases g : c < old
    · have g1 : decide (c < old) = true := by simpa using g
      simp only [if_pos g]
      clear g
      go_enter Tryz.func75, Tryz.ntmps75
      go_upto_region 1 with fail
      rw [HW0.out]
      go_wp2_with (first
        | (at_lookup; refine wpList_look_some _ rfl _ _ 79 rfl 3 Tryz.pfxKey Tryz.underlying79 (Tryz.zeroInt _) mb n f rfl M0.out ⟨pa, pl⟩ rfl HP.out old HF.out ?_; simp only [costV])
        | (at_mapUpdate; refine wpList_mput _ rfl _ _ _ 79 rfl 3 Tryz.pfxKey Tryz.underlying79 mb n f rfl M0.out HN.out ⟨pa, pl⟩ rfl HP.out c rfl ?_; intro w6 M6 G6; have NX := Lib.hid M6; have NG := Lib.hid (HB0.out.andThen G6 (fun j hj => .inr hj.symm.symm)); clear M6 G6))
      go_end0
      exact ⟨rfl, NX.out, NG.out⟩
    · have g1 : decide (c < old) = false := by simpa using g
      simp only [if_neg g]
      clear g
      go_enter Tryz.func75, Tryz.ntmps75
      go_upto_region 1 with fail
      rw [HW0.out]
      go_wp2_with (first
        | (at_lookup; refine wpList_look_some _ rfl _ _ 79 rfl 3 Tryz.pfxKey Tryz.underlying79 (Tryz.zeroInt _) mb n f rfl M0.out ⟨pa, pl⟩ rfl HP.out old HF.out ?_; simp only [costV]))
      go_end0
      exact ⟨rfl, M0.out.mono (Nat.le_succ _), HB0.out⟩

theorem Tryz.u32Key : KeyIs Tryz.prog 22 (fun x : Int => (Lit.int .u32 x).wf = true) (Value.int .u32) (intLit .u32) := int_keyIs Tryz.underlying22
theorem Tryz.intKey : KeyIs Tryz.prog 3 (fun x : Int => (Lit.int .i64 x).wf = true) (Value.int .i64) (intLit .i64) := int_keyIs Tryz.underlying3

set_option maxHeartbeats 4000000 in
theorem leastu_calls (w : World) (mb n : Nat) (f : Int → Option Int) (h : MapF Tryz.prog 22 (fun x : Int => (Lit.int .u32 x).wf = true) (intLit .u32) costV w mb n f) (hn : n < maxLen) (p : Int) (hp : (Lit.int .u32 p).wf = true) (c : Int) :
    Calls Tryz.prog 36 #[.map (some mb), .int .u32 p, .int .i64 c] w fun e w' => e = .returned (.tuple #[]) ∧ MapF Tryz.prog 22 (fun x : Int => (Lit.int .u32 x).wf = true) (intLit .u32) costV w' mb (n + 1) (leastF f p c) ∧ w.grownBy w' (some mb) := by
  have HP := Lib.hid hp
  have HN := Lib.hid hn
  have M0 := Lib.hid h
  have HB0 : Hid (w.grownBy w (some mb)) := Lib.hid ⟨rfl, rfl, rfl, Nat.le_refl _, fun k hk _ => rfl⟩
  clear h hp hn
  unfold leastF
  cases hf : f p with
  | none =>
    have HF := Lib.hid hf
    clear hf
    go_enter Tryz.func36, Tryz.ntmps36
    go_wp2_with (first
      | (at_lookup; refine wpList_look_none _ rfl _ _ 81 rfl 3 Tryz.u32Key Tryz.underlying81 (Tryz.zeroInt _) mb n f rfl M0.out p rfl HP.out HF.out ?_)
      | (at_mapUpdate; refine wpList_mput _ rfl _ _ _ 81 rfl 3 Tryz.u32Key Tryz.underlying81 mb n f rfl M0.out HN.out p rfl HP.out c rfl ?_; intro w6 M6 G6; have NX := Lib.hid M6; have NG := Lib.hid G6; clear M6 G6))
    go_end0
    exact ⟨rfl, NX.out, NG.out⟩
  | some old =>
    have HF := Lib.hid hf
    clear hf
    by_cases g : c < old
    · have g1 : decide (c < old) = true := by simpa using g
      simp only [if_pos g]
      clear g
      go_enter Tryz.func36, Tryz.ntmps36
      go_wp2_with (first
        | (at_lookup; refine wpList_look_some _ rfl _ _ 81 rfl 3 Tryz.u32Key Tryz.underlying81 (Tryz.zeroInt _) mb n f rfl M0.out p rfl HP.out old HF.out ?_; simp only [costV])
        | (at_mapUpdate; refine wpList_mput _ rfl _ _ _ 81 rfl 3 Tryz.u32Key Tryz.underlying81 mb n f rfl M0.out HN.out p rfl HP.out c rfl ?_; intro w6 M6 G6; have NX := Lib.hid M6; have NG := Lib.hid G6; clear M6 G6))
      go_end0
      exact ⟨rfl, NX.out, NG.out⟩
    · have g1 : decide (c < old) = false := by simpa using g
      simp only [if_neg g]
      clear g
      go_enter Tryz.func36, Tryz.ntmps36
      go_wp2_with (first
        | (at_lookup; refine wpList_look_some _ rfl _ _ 81 rfl 3 Tryz.u32Key Tryz.underlying81 (Tryz.zeroInt _) mb n f rfl M0.out p rfl HP.out old HF.out ?_; simp only [costV]))
      go_end0
      exact ⟨rfl, M0.out.mono (Nat.le_succ _), HB0.out⟩

end Go.Proofs.YtogdconliofblaaGreat

namespace Go.Proofs.YtogdconliofblaaGreat
open Go.RowKit

def argAt (l : List Arg) (k : Nat) : Arg := l.getD k default
theorem argAt_eq {l : List Arg} {k : Nat} (c : k < l.length) : argAt l k = l[k] := by
  rw [argAt, List.getD_eq_getElem?_getD, List.getElem?_eq_getElem c]; rfl

/-- the greatest cost is kept -/
def maxF (q : Int → Option Int) (i c : Int) : Int → Option Int :=
  match q i with
  | none => upd q i c
  | some old => if old < c then upd q i c else q

/-- behind the first ranges: is the route taken, and the greatest costs -/
def rngK (l : List Arg) (r : Rt) (q : Int → Option Int) : Nat → Bool × (Int → Option Int)
  | 0 => (false, q)
  | i + 1 => if takB l (argAt l i) r = true then (true, maxF (rngK l r q i).2 i r.cost) else rngK l r q i

def ownB (into : Int) (r : Rt) (taken : Bool) : Bool := (decide (r.proto = 3) && !taken) || (decide (r.proto = 4) && !decide (into = 0))
def useB (into : Int) (r : Rt) : Bool := !decide (r.area = into) && goodB r.cost

abbrev SmS := (Ls.Pfx → Option Int) × (Int → Option Int)
def sumOne (l : List Arg) (into : Int) (s : SmS) (r : Rt) : SmS :=
  if useB into r = true then (if ownB into r (rngK l r s.2 l.length).1 = true then leastF s.1 r.pfx r.cost else s.1, (rngK l r s.2 l.length).2) else s
def sumK (l : List Arg) (into : Int) (rs : List RtH) (k : Nat) : SmS := ((rs.map RtH.rt).take k).foldl (sumOne l into) (fun _ => none, fun _ => none)
theorem sumK_succ (l : List Arg) (into : Int) (rs : List RtH) {k : Nat} (c : k < rs.length) : sumK l into rs (k + 1) = sumOne l into (sumK l into rs k) rs[k].rt := by
  unfold sumK
  rw [take_fold _ _ _ _ (by simpa using c), List.getElem_map]

theorem leastF_none {α : Type} [DecidableEq α] {f : α → Option Int} {x : α} {c : Int} (h : f x = none) : leastF f x c = upd f x c := by unfold leastF; rw [h]
theorem leastF_lt {α : Type} [DecidableEq α] {f : α → Option Int} {x : α} {c old : Int} (h : f x = some old) (c0 : c < old) : leastF f x c = upd f x c := by unfold leastF; rw [h]; exact if_pos c0
theorem leastF_ge {α : Type} [DecidableEq α] {f : α → Option Int} {x : α} {c old : Int} (h : f x = some old) (c0 : ¬ c < old) : leastF f x c = f := by unfold leastF; rw [h]; exact if_neg c0
theorem maxF_none {f : Int → Option Int} {x c : Int} (h : f x = none) : maxF f x c = upd f x c := by unfold maxF; rw [h]
theorem maxF_lt {f : Int → Option Int} {x c old : Int} (h : f x = some old) (c0 : old < c) : maxF f x c = upd f x c := by unfold maxF; rw [h]; exact if_pos c0
theorem maxF_ge {f : Int → Option Int} {x c old : Int} (h : f x = some old) (c0 : ¬ old < c) : maxF f x c = f := by unfold maxF; rw [h]; exact if_neg c0

/-- g has the least of the costs S -/
def MinF {α : Type} (S : α → Int → Prop) (g : α → Option Int) : Prop := ∀ p, (g p = none → ∀ c, ¬ S p c) ∧ ∀ c, g p = some c → S p c ∧ ∀ d, S p d → c ≤ d
theorem MinF.congr {α : Type} {S T : α → Int → Prop} {g : α → Option Int} (h : MinF S g) (e : ∀ p c, S p c ↔ T p c) : MinF T g :=
  fun p => ⟨fun hn c hc => (h p).1 hn c ((e p c).2 hc), fun c hc => ⟨(e p c).1 ((h p).2 c hc).1, fun d hd => ((h p).2 c hc).2 d ((e p d).2 hd)⟩⟩
theorem MinF.one {α : Type} {S : α → Int → Prop} {g g' : α → Option Int} (h : MinF S g) (h' : MinF S g') : g = g' := by
  funext p
  cases e : g p with
  | none =>
    cases e' : g' p with
    | none => rfl
    | some c => exact absurd ((h' p).2 c e').1 ((h p).1 e c)
  | some c =>
    cases e' : g' p with
    | none => exact absurd ((h p).2 c e).1 ((h' p).1 e' c)
    | some d =>
      have h1 := ((h p).2 c e).2 d ((h' p).2 d e').1
      have h2 := ((h' p).2 d e').2 c ((h p).2 c e).1
      rw [show c = d from by omega]
theorem MinF.empty {α : Type} : MinF (fun (_ : α) (_ : Int) => False) (fun _ => none) := fun _ => ⟨fun _ _ h => h, fun c h => by cases h⟩
theorem MinF.self {α : Type} (g : α → Option Int) : MinF (fun p c => g p = some c) g :=
  fun p => ⟨fun hn c hc => (by have hc : g p = some c := hc; rw [hn] at hc; cases hc), fun c hc => ⟨hc, fun d hd => (by have hd : g p = some d := hd; rw [hc] at hd; cases hd; omega)⟩⟩
theorem MinF.add {α : Type} [DecidableEq α] {S : α → Int → Prop} {g : α → Option Int} (h : MinF S g) (x : α) (k : Int) : MinF (fun p c => S p c ∨ (p = x ∧ c = k)) (leastF g x k) := by
  intro p
  by_cases e : p = x
  · subst e
    have put : leastF g p k = upd g p k → (∀ d, S p d → k ≤ d) → (leastF g p k p = none → ∀ c, ¬ (S p c ∨ (p = p ∧ c = k))) ∧ ∀ c, leastF g p k p = some c → (S p c ∨ (p = p ∧ c = k)) ∧ ∀ d, (S p d ∨ (p = p ∧ d = k)) → c ≤ d := by
      intro he hd
      rw [he]
      refine ⟨fun hn => by simp [upd] at hn, fun c hc => ?_⟩
      have hc : k = c := by simpa [upd] using hc
      subst hc
      refine ⟨.inr ⟨rfl, rfl⟩, fun d hd' => ?_⟩
      rcases hd' with hd' | ⟨_, rfl⟩
      · exact hd d hd'
      · omega
    cases hg : g p with
    | none => exact put (leastF_none hg) (fun d hd => absurd hd ((h p).1 hg d))
    | some old =>
      obtain ⟨h1, h2⟩ := (h p).2 old hg
      by_cases c0 : k < old
      · exact put (leastF_lt hg c0) (fun d hd => by have := h2 d hd; omega)
      · rw [leastF_ge hg c0]
        refine ⟨fun hn => (by rw [hg] at hn; cases hn), fun c hc => ?_⟩
        rw [hg] at hc
        cases hc
        refine ⟨.inl h1, fun d hd => ?_⟩
        rcases hd with hd | ⟨_, rfl⟩
        · exact h2 d hd
        · omega
  · have e2 : leastF g x k p = g p := by
      cases hg : g x with
      | none => rw [leastF_none hg]; simp [upd, e]
      | some old =>
        by_cases c0 : k < old
        · rw [leastF_lt hg c0]; simp [upd, e]
        · rw [leastF_ge hg c0]
    show (leastF g x k p = none → ∀ c, ¬ (S p c ∨ (p = x ∧ c = k))) ∧ ∀ c, leastF g x k p = some c → (S p c ∨ (p = x ∧ c = k)) ∧ ∀ d, (S p d ∨ (p = x ∧ d = k)) → c ≤ d
    rw [e2]
    refine ⟨fun hn c hc => ?_, fun c hc => ?_⟩
    · rcases hc with hc | ⟨h1, _⟩
      · exact (h p).1 hn c hc
      · exact e h1
    · obtain ⟨h1, h2⟩ := (h p).2 c hc
      refine ⟨.inl h1, fun d hd => ?_⟩
      rcases hd with hd | ⟨h3, _⟩
      · exact h2 d hd
      · exact absurd h3 e

theorem rngK_keys (l : List Arg) (r : Rt) (q : Int → Option Int) (hq : ∀ i c, q i = some c → 0 ≤ i ∧ i < l.length) : ∀ k, k ≤ l.length → ∀ i c, (rngK l r q k).2 i = some c → 0 ≤ i ∧ i < l.length
  | 0, _, i, c, h => hq i c h
  | k + 1, hk, i, c, h => by
    have ih := rngK_keys l r q hq k (by omega)
    unfold rngK at h
    split at h
    · simp only at h
      have up : ∀ x : Int, upd (rngK l r q k).2 (k : Int) x i = some c → 0 ≤ i ∧ i < l.length := by
        intro x hx
        unfold upd at hx
        split at hx
        · rename_i e; subst e; omega
        · exact ih i c hx
      cases hm : (rngK l r q k).2 (k : Int) with
      | none => rw [maxF_none hm] at h; exact up _ h
      | some old =>
        by_cases c0 : old < r.cost
        · rw [maxF_lt hm c0] at h; exact up _ h
        · rw [maxF_ge hm c0] at h; exact ih i c h
    · exact ih i c h
theorem sumK_keys (l : List Arg) (into : Int) (rs : List RtH) (k : Nat) : ∀ i c, (sumK l into rs k).2 i = some c → 0 ≤ i ∧ i < l.length := by
  unfold sumK
  have key : ∀ (m : List Rt) (s : SmS), (∀ i c, s.2 i = some c → 0 ≤ i ∧ i < l.length) → ∀ i c, (m.foldl (sumOne l into) s).2 i = some c → 0 ≤ i ∧ i < l.length := by
    intro m
    induction m with
    | nil => intro s h; exact h
    | cons r m ih =>
      intro s h
      rw [List.foldl_cons]
      refine ih _ ?_
      unfold sumOne
      split
      · exact rngK_keys l r s.2 h l.length (Nat.le_refl _)
      · exact h
  exact key _ _ (fun i c h => by cases h)

/-- the costs of the prefixes that are summarized -/
def SumS (l : List Arg) (into : Int) (rs : List RtH) (p : Ls.Pfx) (c : Int) : Prop :=
  (sumK l into rs rs.length).1 p = some c ∨ ∃ i : Nat, i < l.length ∧ (argAt l i).adv = true ∧ (argAt l i).area ≠ into ∧ (argAt l i).pfx = p ∧ (sumK l into rs rs.length).2 i = some c

end Go.Proofs.YtogdconliofblaaGreat
