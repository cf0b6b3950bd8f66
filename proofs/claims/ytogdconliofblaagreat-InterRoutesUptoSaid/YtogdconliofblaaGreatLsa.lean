/-
  Advertisements in memory; lsa.Prefix.
-/
import Derived.Test.YtogdconliofblaaGreatCmr
namespace Go.Proofs.YtogdconliofblaaGreat
open Go.RowKit

/-- an advertisement as it lies in memory -/
structure Lsa where
  typ : Int
  id : Int
  len : Int
  router : Int
  seq : Int
  age : Int
  sum : Int
  border : Bool
  boundary : Bool
  la : Option Addr
  ln : Nat
  lc : Nat
  aa : Option Addr
  an : Nat
  ac : Nat
  cost : Int
  second : Bool
  fwd : Int
  tag : Int
deriving Inhabited

def lsaE (x : Lsa) : List Value := [.int .i64 x.typ, .int .u32 x.id, .int .i64 x.len, .int .u32 x.router, .int .i64 x.seq, .int .i64 x.age, .int .i64 x.sum, .bool x.border, .bool x.boundary, .slice x.la x.ln x.lc, .slice x.aa x.an x.ac, .int .i64 x.cost, .bool x.second, .int .u32 x.fwd, .int .i64 x.tag]

/-- the words of an advertisement are words -/
structure OkL (x : Lsa) : Prop where
  id0 : 0 ≤ x.id
  id1 : x.id < 4294967296
  r0 : 0 ≤ x.router
  r1 : x.router < 4294967296
  f0 : 0 ≤ x.fwd
  f1 : x.fwd < 4294967296

def hasPfx (t : Int) : Bool := t == 2 || t == 3 || t == 5

set_option maxHeartbeats 1000000 in
theorem hasPrefix_calls (t : Int) (h : hasPfx t = true) (w : World) : Calls Tryz.prog 85 #[.int .i64 t] w fun e w' => e = .returned (.bool true) ∧ w = w' := by
  unfold hasPfx at h
  by_cases h2 : t = 2
  · subst h2; clear h
    go_enter Tryz.func85, Tryz.ntmps85
    go_wp2_with fail
    go_ret
    exact ⟨rfl, rfl⟩
  · by_cases h3 : t = 3
    · subst h3; clear h
      go_enter Tryz.func85, Tryz.ntmps85
      go_wp2_with fail
      go_ret
      exact ⟨rfl, rfl⟩
    · have h5 : t = 5 := by simp [h2, h3] at h; exact h
      subst h5; clear h
      go_enter Tryz.func85, Tryz.ntmps85
      go_wp2_with fail
      go_ret
      exact ⟨rfl, rfl⟩

theorem blk_new2 (w : World) (o o' : Obj) : ((w.alloc o).alloc o').heap[w.heap.size + 1]? = some o' := by have := alloc_new (w.alloc o) o'; simpa using this

/-- the prefix that an advertisement describes -/
def lsaPfx (x : Lsa) : Ls.Pfx := ⟨keepI x.id x.len, x.len⟩

set_option maxHeartbeats 2000000 in
theorem lprefix_calls (x : Lsa) (ok : OkL x) (ht : hasPfx x.typ = true) (h0 : 0 ≤ x.len) (h1 : x.len ≤ 32) (w : World) :
    Calls Tryz.prog 49 #[.agg (lsaE x).toArray] w fun e w' => e = .returned (.tuple #[.agg #[.int .u32 (lsaPfx x).addr, .int .i64 (lsaPfx x).len], .bool true]) ∧ Gr w w' := by
  have HP := Lib.hid (fun W => hasPrefix_calls x.typ ht W)
  have MK := Lib.hid (fun W => make_calls x.id x.len h0 h1 ok.id0 ok.id1 W)
  unfold lsaPfx
  generalize keepI x.id x.len = p at *
  clear ok ht h0 h1
  obtain ⟨typ, id, len, router, seq, age, sum, border, boundary, la, ln, lc, aa, an, ac, cost, second, fwd, tag⟩ := x
  simp only [lsaE] at HP MK ⊢
  go_enter Tryz.func49, Tryz.ntmps49
  go_wp2_with fail
  refine (HP.out _).mono ?_
  rintro e w1 ⟨rfl, rfl⟩
  go_wp2_with fail
  refine (MK.out _).mono ?_
  rintro e w2 ⟨rfl, G⟩
  have G0 : Gr w w2 := (((Gr.refl w).alloc _).alloc _).trans G
  have c0 : w2.cell? ⟨w.heap.size + 1, 0, none⟩ = some (.int .u32 0) := bcell G.b (blk_cell (blk_new2 w _ _) rfl)
  have c1 : w2.cell? ⟨w.heap.size + 1, 1, none⟩ = some (.int .i64 0) := bcell G.b (blk_cell (blk_new2 w _ _) rfl)
  have f0 : w2.frozen? ⟨w.heap.size + 1, 0, none⟩ = false := blk_free ((G.b.block (w.heap.size + 1) (by simp)).trans (blk_new2 w _ _)) 0
  have f1 : w2.frozen? ⟨w.heap.size + 1, 1, none⟩ = false := blk_free ((G.b.block (w.heap.size + 1) (by simp)).trans (blk_new2 w _ _)) 1
  have hs : w.heap.size + 1 < w2.heap.size := by have := G.b.size; simp at this; omega
  clear G
  go_wp2_with fail
  exact bodyPost_ret (v := .tuple #[.agg #[.int .u32 p, .int .i64 len], .bool true]) (by simp [results, Tryz.results49, go_sem, c0, c1, hs]) rfl ⟨rfl, by repeat (first | exact G0 | refine Gr.drew ?_ | refine Gr.alloc ?_ _ | refine Gr.setCell ?_ (Nat.le_succ _) _)⟩
end Go.Proofs.YtogdconliofblaaGreat
