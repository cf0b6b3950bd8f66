/-
  routingref34.Compare; which route is preferred, in plain words.
-/
/-
  Advertisements in memory; lsa.Prefix.
-/
/-
  routingref23: Words, Key, CompareKeys, Links.
-/
/-
  Rows of advertisements in memory; the key of an advertisement.
-/
import Derived.Test.YtogdconliofblaaGreatCmr
namespace Go.Proofs.YtogdconliofblaaGreat
open Go.RowKit

set_option maxHeartbeats 400000 in
theorem numbers_calls (a b : Int) (w : World) : Calls Tryz.prog 122 #[.int .i64 a, .int .i64 b] w fun e w' => e = .returned (.int .i64 (cmpI a b)) ∧ w = w' := by
  by_cases h1 : a < b
  · rw [cmpI_lt h1]
    go_enter Tryz.func122, Tryz.ntmps122
    go_wp2
    go_ret
    exact ⟨rfl, rfl⟩
  · by_cases h2 : b < a
    · rw [cmpI_gt h2]
      go_enter Tryz.func122, Tryz.ntmps122
      go_wp2
      go_ret
      exact ⟨rfl, rfl⟩
    · rw [cmpI_eq (by omega)]
      go_enter Tryz.func122, Tryz.ntmps122
      go_wp2
      go_ret
      exact ⟨rfl, rfl⟩

theorem cmpI_anti (a b : Int) : cmpI b a = - cmpI a b := by unfold cmpI; split <;> split <;> omega
theorem cmpI_bd (a b : Int) : -1 ≤ cmpI a b ∧ cmpI a b ≤ 1 := by unfold cmpI; split <;> (try split) <;> omega
theorem cmpI_le (a b : Int) : cmpI a b ≤ 0 ↔ a ≤ b := by unfold cmpI; split <;> (try split) <;> omega

end Go.Proofs.YtogdconliofblaaGreat

namespace Go.Proofs.YtogdconliofblaaGreat
open Go.RowKit

/-- an advertisement as it lies in memory -/
structure Lsa where
  typ : Int
  id : Int
  len : Int
  router : Int
  seq : Int
  age : Int
  sum : Int
  border : Bool
  boundary : Bool
  la : Option Addr
  ln : Nat
  lc : Nat
  aa : Option Addr
  an : Nat
  ac : Nat
  cost : Int
  second : Bool
  fwd : Int
  tag : Int
deriving Inhabited

def lsaE (x : Lsa) : List Value := [.int .i64 x.typ, .int .u32 x.id, .int .i64 x.len, .int .u32 x.router, .int .i64 x.seq, .int .i64 x.age, .int .i64 x.sum, .bool x.border, .bool x.boundary, .slice x.la x.ln x.lc, .slice x.aa x.an x.ac, .int .i64 x.cost, .bool x.second, .int .u32 x.fwd, .int .i64 x.tag]

/-- the words of an advertisement are words -/
structure OkL (x : Lsa) : Prop where
  id0 : 0 ≤ x.id
  id1 : x.id < 4294967296
  r0 : 0 ≤ x.router
  r1 : x.router < 4294967296
  f0 : 0 ≤ x.fwd
  f1 : x.fwd < 4294967296

def hasPfx (t : Int) : Bool := t == 2 || t == 3 || t == 5

set_option maxHeartbeats 1000000 in
theorem hasPrefix_calls (t : Int) (h : hasPfx t = true) (w : World) : Calls Tryz.prog 85 #[.int .i64 t] w fun e w' => e = .returned (.bool true) ∧ w = w' := by
  unfold hasPfx at h
  by_cases h2 : t = 2
  · subst h2; clear h
    go_enter Tryz.func85, Tryz.ntmps85
    go_wp2_with fail
    go_ret
    exact ⟨rfl, rfl⟩
  · by_cases h3 : t = 3
    · subst h3; clear h
      go_enter Tryz.func85, Tryz.ntmps85
      go_wp2_with fail
      go_ret
      exact ⟨rfl, rfl⟩
    · have h5 : t = 5 := by simp [h2, h3] at h; exact h
      subst h5; clear h
      go_enter Tryz.func85, Tryz.ntmps85
      go_wp2_with fail
      go_ret
      exact ⟨rfl, rfl⟩

theorem blk_new2 (w : World) (o o' : Obj) : ((w.alloc o).alloc o').heap[w.heap.size + 1]? = some o' := by have := alloc_new (w.alloc o) o'; simpa using this

/-- the prefix that an advertisement describes -/
def lsaPfx (x : Lsa) : Ls.Pfx := ⟨keepI x.id x.len, x.len⟩

set_option maxHeartbeats 2000000 in
theorem lprefix_calls (x : Lsa) (ok : OkL x) (ht : hasPfx x.typ = true) (h0 : 0 ≤ x.len) (h1 : x.len ≤ 32) (w : World) :
    Calls Tryz.prog 49 #[.agg (lsaE x).toArray] w fun e w' => e = .returned (.tuple #[.agg #[.int .u32 (lsaPfx x).addr, .int .i64 (lsaPfx x).len], .bool true]) ∧ Gr w w' := by
  have HP := Lib.hid (fun W => hasPrefix_calls x.typ ht W)
  have MK := Lib.hid (fun W => make_calls x.id x.len h0 h1 ok.id0 ok.id1 W)
  unfold lsaPfx
  generalize keepI x.id x.len = p at *
  clear ok ht h0 h1
  obtain ⟨typ, id, len, router, seq, age, sum, border, boundary, la, ln, lc, aa, an, ac, cost, second, fwd, tag⟩ := x
  simp only [lsaE] at HP MK ⊢
  go_enter Tryz.func49, Tryz.ntmps49
  go_wp2_with fail
  refine (HP.out _).mono ?_
  rintro e w1 ⟨rfl, rfl⟩
  go_wp2_with fail
  refine (MK.out _).mono ?_
  rintro e w2 ⟨rfl, G⟩
  have G0 : Gr w w2 := (((Gr.refl w).alloc _).alloc _).trans G
  have c0 : w2.cell? ⟨w.heap.size + 1, 0, none⟩ = some (.int .u32 0) := bcell G.b (blk_cell (blk_new2 w _ _) rfl)
  have c1 : w2.cell? ⟨w.heap.size + 1, 1, none⟩ = some (.int .i64 0) := bcell G.b (blk_cell (blk_new2 w _ _) rfl)
  have f0 : w2.frozen? ⟨w.heap.size + 1, 0, none⟩ = false := blk_free ((G.b.block (w.heap.size + 1) (by simp)).trans (blk_new2 w _ _)) 0
  have f1 : w2.frozen? ⟨w.heap.size + 1, 1, none⟩ = false := blk_free ((G.b.block (w.heap.size + 1) (by simp)).trans (blk_new2 w _ _)) 1
  have hs : w.heap.size + 1 < w2.heap.size := by have := G.b.size; simp at this; omega
  clear G
  go_wp2_with fail
  exact bodyPost_ret (v := .tuple #[.agg #[.int .u32 p, .int .i64 len], .bool true]) (by simp [results, Tryz.results49, go_sem, c0, c1, hs]) rfl ⟨rfl, by repeat (first | exact G0 | refine Gr.drew ?_ | refine Gr.alloc ?_ _ | refine Gr.setCell ?_ (Nat.le_succ _) _)⟩
end Go.Proofs.YtogdconliofblaaGreat

namespace Go.Proofs.YtogdconliofblaaGreat
open Go.RowKit

set_option maxHeartbeats 400000 in
theorem words_calls (a b : Int) (w : World) : Calls Tryz.prog 123 #[.int .u32 a, .int .u32 b] w fun e w' => e = .returned (.int .i64 (cmpI a b)) ∧ w = w' := by
  by_cases h1 : a < b
  · rw [cmpI_lt h1]
    go_enter Tryz.func123, Tryz.ntmps123
    go_wp2
    go_ret
    exact ⟨rfl, rfl⟩
  · by_cases h2 : b < a
    · rw [cmpI_gt h2]
      go_enter Tryz.func123, Tryz.ntmps123
      go_wp2
      go_ret
      exact ⟨rfl, rfl⟩
    · rw [cmpI_eq (by omega)]
      go_enter Tryz.func123, Tryz.ntmps123
      go_wp2
      go_ret
      exact ⟨rfl, rfl⟩

theorem cmpI_ne {a b : Int} (h : ¬ a = b) : cmpI a b ≠ 0 := by unfold cmpI; split <;> (try split) <;> omega

theorem orI_zero {x : Int} {l : List Int} (h : x = 0) : orI (x :: l) = orI l := if_pos h
theorem orI_ne {x : Int} {l : List Int} (h : x ≠ 0) : orI (x :: l) = x := if_neg h
theorem orI_one (x : Int) : orI [x] = x := by
  by_cases h : x = 0
  · rw [orI_zero h, h]; rfl
  · exact orI_ne h

/-- the key of an advertisement -/
structure Kk where
  typ : Int
  id : Int
  len : Int
  router : Int
deriving DecidableEq, Inhabited
def keyE (k : Kk) : List Value := [.int .i64 k.typ, .int .u32 k.id, .int .i64 k.len, .int .u32 k.router]
def kkCmp (a b : Kk) : Int := orI [cmpI a.typ b.typ, cmpI a.id b.id, cmpI a.len b.len, cmpI a.router b.router]

set_option maxHeartbeats 1000000 in
theorem key_calls (t id len r seq age sum : Int) (w : World) : Calls Tryz.prog 79 #[.agg #[.int .i64 t, .int .u32 id, .int .i64 len, .int .u32 r, .int .i64 seq, .int .i64 age, .int .i64 sum]] w fun e w' => e = .returned (.agg (keyE ⟨t, id, len, r⟩).toArray) ∧ Gr w w' := by
  go_enter Tryz.func79, Tryz.ntmps79
  go_wp2_with fail
  exact bodyPost_ret (v := .agg #[.int .i64 t, .int .u32 id, .int .i64 len, .int .u32 r]) (by simp [results, Tryz.results79, go_sem]) rfl ⟨rfl, by repeat (first | exact Gr.refl _ | refine Gr.drew ?_ | refine Gr.alloc ?_ _ | refine Gr.setCell ?_ (by simp) _)⟩

set_option maxHeartbeats 1000000 in
theorem ckeys_raw (x0 y0 x1 y1 x2 y2 x3 y3 : Int) (w : World) : Calls Tryz.prog 83 #[.agg #[.int .i64 x0, .int .u32 x1, .int .i64 x2, .int .u32 x3], .agg #[.int .i64 y0, .int .u32 y1, .int .i64 y2, .int .u32 y3]] w fun e w' => e = .returned (.int .i64 (orI [cmpI x0 y0, cmpI x1 y1, cmpI x2 y2, cmpI x3 y3])) ∧ Gr w w' := by
  by_cases h0 : x0 = y0
  · subst h0
    have e0 : cmpI x0 x0 = 0 := cmpI_eq rfl
    have q0 : (x0 != x0) = false := by simp
    rw [orI_zero e0]
    clear e0
    by_cases h1 : x1 = y1
    · subst h1
      have e1 : cmpI x1 x1 = 0 := cmpI_eq rfl
      have q1 : (x1 != x1) = false := by simp
      rw [orI_zero e1]
      clear e1
      by_cases h2 : x2 = y2
      · subst h2
        have e2 : cmpI x2 x2 = 0 := cmpI_eq rfl
        have q2 : (x2 != x2) = false := by simp
        rw [orI_zero e2]
        clear e2
        rw [orI_one]
        have C := Lib.hid (fun W => words_calls x3 y3 W)
        generalize cmpI x3 y3 = r at C ⊢
        go_enter Tryz.func83, Tryz.ntmps83
        go_wp2_with fail
        refine (C.out _).mono ?_
        rintro e w1 ⟨rfl, rfl⟩
        go_wp2_with fail
        go_ret
        exact ⟨rfl, ((Gr.refl _).alloc _).alloc _⟩
      · have n2 := cmpI_ne h2
        have q2 : (x2 != y2) = true := by simpa using h2
        have p2 : (x2 == y2) = false := by simpa using h2
        rw [orI_ne n2]
        clear n2 h2
        have C := Lib.hid (fun W => numbers_calls x2 y2 W)
        generalize cmpI x2 y2 = r at C ⊢
        go_enter Tryz.func83, Tryz.ntmps83
        go_wp2_with fail
        refine (C.out _).mono ?_
        rintro e w1 ⟨rfl, rfl⟩
        go_wp2_with fail
        go_ret
        exact ⟨rfl, ((Gr.refl _).alloc _).alloc _⟩
    · have n1 := cmpI_ne h1
      have q1 : (x1 != y1) = true := by simpa using h1
      have p1 : (x1 == y1) = false := by simpa using h1
      rw [orI_ne n1]
      clear n1 h1
      have C := Lib.hid (fun W => words_calls x1 y1 W)
      generalize cmpI x1 y1 = r at C ⊢
      go_enter Tryz.func83, Tryz.ntmps83
      go_wp2_with fail
      refine (C.out _).mono ?_
      rintro e w1 ⟨rfl, rfl⟩
      go_wp2_with fail
      go_ret
      exact ⟨rfl, ((Gr.refl _).alloc _).alloc _⟩
  · have n0 := cmpI_ne h0
    have q0 : (x0 != y0) = true := by simpa using h0
    have p0 : (x0 == y0) = false := by simpa using h0
    rw [orI_ne n0]
    clear n0 h0
    have C := Lib.hid (fun W => numbers_calls x0 y0 W)
    generalize cmpI x0 y0 = r at C ⊢
    go_enter Tryz.func83, Tryz.ntmps83
    go_wp2_with fail
    refine (C.out _).mono ?_
    rintro e w1 ⟨rfl, rfl⟩
    go_wp2_with fail
    go_ret
    exact ⟨rfl, ((Gr.refl _).alloc _).alloc _⟩

set_option maxHeartbeats 1000000 in
theorem links_raw (x0 y0 x1 y1 x2 y2 x3 y3 : Int) (w : World) : Calls Tryz.prog 151 #[.agg #[.int .i64 x0, .int .u32 x1, .int .u32 x2, .int .i64 x3], .agg #[.int .i64 y0, .int .u32 y1, .int .u32 y2, .int .i64 y3]] w fun e w' => e = .returned (.int .i64 (orI [cmpI x0 y0, cmpI x1 y1, cmpI x2 y2])) ∧ Gr w w' := by
  by_cases h0 : x0 = y0
  · subst h0
    have e0 : cmpI x0 x0 = 0 := cmpI_eq rfl
    have q0 : (x0 != x0) = false := by simp
    rw [orI_zero e0]
    clear e0
    by_cases h1 : x1 = y1
    · subst h1
      have e1 : cmpI x1 x1 = 0 := cmpI_eq rfl
      have q1 : (x1 != x1) = false := by simp
      rw [orI_zero e1]
      clear e1
      rw [orI_one]
      have C := Lib.hid (fun W => words_calls x2 y2 W)
      generalize cmpI x2 y2 = r at C ⊢
      go_enter Tryz.func151, Tryz.ntmps151
      go_wp2_with fail
      refine (C.out _).mono ?_
      rintro e w1 ⟨rfl, rfl⟩
      go_wp2_with fail
      go_ret
      exact ⟨rfl, ((Gr.refl _).alloc _).alloc _⟩
    · have n1 := cmpI_ne h1
      have q1 : (x1 != y1) = true := by simpa using h1
      have p1 : (x1 == y1) = false := by simpa using h1
      rw [orI_ne n1]
      clear n1 h1
      have C := Lib.hid (fun W => words_calls x1 y1 W)
      generalize cmpI x1 y1 = r at C ⊢
      go_enter Tryz.func151, Tryz.ntmps151
      go_wp2_with fail
      refine (C.out _).mono ?_
      rintro e w1 ⟨rfl, rfl⟩
      go_wp2_with fail
      go_ret
      exact ⟨rfl, ((Gr.refl _).alloc _).alloc _⟩
  · have n0 := cmpI_ne h0
    have q0 : (x0 != y0) = true := by simpa using h0
    have p0 : (x0 == y0) = false := by simpa using h0
    rw [orI_ne n0]
    clear n0 h0
    have C := Lib.hid (fun W => numbers_calls x0 y0 W)
    generalize cmpI x0 y0 = r at C ⊢
    go_enter Tryz.func151, Tryz.ntmps151
    go_wp2_with fail
    refine (C.out _).mono ?_
    rintro e w1 ⟨rfl, rfl⟩
    go_wp2_with fail
    go_ret
    exact ⟨rfl, ((Gr.refl _).alloc _).alloc _⟩

theorem ckeys_calls (a b : Kk) (w : World) : Calls Tryz.prog 83 #[.agg (keyE a).toArray, .agg (keyE b).toArray] w fun e w' => e = .returned (.int .i64 (kkCmp a b)) ∧ Gr w w' :=
  ckeys_raw _ _ _ _ _ _ _ _ w

end Go.Proofs.YtogdconliofblaaGreat

namespace Go.Proofs.YtogdconliofblaaGreat
open Go.RowKit

def lkOf (x : Lsa) : Kk := ⟨x.typ, x.id, x.len, x.router⟩

def LsasAt (w : World) (v : Value) (l : List Lsa) : Prop := SlV 15 w v (l.map lsaE)
theorem LsasAt.below {w w' : World} {v : Value} {l : List Lsa} (h : LsasAt w v l) (hb : Below w.heap.size w w') : LsasAt w' v l := SlV.below h hb

def LsaCells (w : World) (b o : Nat) (x : Lsa) : Prop :=
  (w.cell? ⟨b, o, none⟩ = some (.int .i64 x.typ) ∧ w.cell? ⟨b, o + 1, none⟩ = some (.int .u32 x.id) ∧ w.cell? ⟨b, o + 2, none⟩ = some (.int .i64 x.len) ∧ w.cell? ⟨b, o + 3, none⟩ = some (.int .u32 x.router) ∧ w.cell? ⟨b, o + 4, none⟩ = some (.int .i64 x.seq)) ∧
  (w.cell? ⟨b, o + 5, none⟩ = some (.int .i64 x.age) ∧ w.cell? ⟨b, o + 6, none⟩ = some (.int .i64 x.sum) ∧ w.cell? ⟨b, o + 7, none⟩ = some (.bool x.border) ∧ w.cell? ⟨b, o + 8, none⟩ = some (.bool x.boundary) ∧ w.cell? ⟨b, o + 9, none⟩ = some (.slice x.la x.ln x.lc)) ∧
  (w.cell? ⟨b, o + 10, none⟩ = some (.slice x.aa x.an x.ac) ∧ w.cell? ⟨b, o + 11, none⟩ = some (.int .i64 x.cost) ∧ w.cell? ⟨b, o + 12, none⟩ = some (.bool x.second) ∧ w.cell? ⟨b, o + 13, none⟩ = some (.int .u32 x.fwd) ∧ w.cell? ⟨b, o + 14, none⟩ = some (.int .i64 x.tag))

theorem LsaCells.below {w w' : World} {b o : Nat} {x : Lsa} (h : LsaCells w b o x) {B : Nat} (hb : Below B w w') (hlt : b < B) : LsaCells w' b o x := by
  have e := fun k => World.cell?_of_block (w := w) (w' := w') (a := ⟨b, k, none⟩) (hb.block b hlt)
  obtain ⟨⟨h0, h1, h2, h3, h4⟩, ⟨h5, h6, h7, h8, h9⟩, ⟨h10, h11, h12, h13, h14⟩⟩ := h
  exact ⟨⟨(e _).trans h0, (e _).trans h1, (e _).trans h2, (e _).trans h3, (e _).trans h4⟩, ⟨(e _).trans h5, (e _).trans h6, (e _).trans h7, (e _).trans h8, (e _).trans h9⟩, ⟨(e _).trans h10, (e _).trans h11, (e _).trans h12, (e _).trans h13, (e _).trans h14⟩⟩

theorem LsasAt.get {w : World} {v : Value} {l : List Lsa} (h : LsasAt w v l) : ∃ a cap, v = .slice a l.length cap ∧ l.length ≤ 9223372036854775807 ∧ (0 < l.length → ∃ b off, a = some ⟨b, off, none⟩ ∧ b < w.heap.size ∧ ∀ i (h : i < l.length), LsaCells w b (off + i * 15) l[i]) := by
  have hl := SlV.len h
  obtain ⟨a, cap, h0, h1, h2, hn, h3⟩ := h
  simp only [List.length_map] at h0 h1 h3 hl
  refine ⟨a, cap, h0, hl, fun hp => ?_⟩
  obtain ⟨b, off, e, h4, h5⟩ := h3 hp
  refine ⟨b, off, e, h4, fun i hi => ?_⟩
  have := h5 i (by simpa using hi)
  simp only [List.getElem_map, lsaE] at this
  exact ⟨⟨this 0 _ rfl, this 1 _ rfl, this 2 _ rfl, this 3 _ rfl, this 4 _ rfl⟩, ⟨this 5 _ rfl, this 6 _ rfl, this 7 _ rfl, this 8 _ rfl, this 9 _ rfl⟩, ⟨this 10 _ rfl, this 11 _ rfl, this 12 _ rfl, this 13 _ rfl, this 14 _ rfl⟩⟩

end Go.Proofs.YtogdconliofblaaGreat
