import Derived.Test.YtddageahmgaigaaGreatBit
namespace Go.Proofs.YtddageahmgaigaaGreat
open Go.RowKit

set_option maxHeartbeats 400000 in
theorem words_calls (a b : Int) (w : World) : Calls Tryz.prog 97 #[.int .u32 a, .int .u32 b] w fun e w' => e = .returned (.int .i64 (cmpI a b)) ∧ w = w' := by
  by_cases h1 : a < b
  · rw [cmpI_lt h1]
    go_enter Tryz.func97, Tryz.ntmps97
    go_wp2
    go_ret
    exact ⟨rfl, rfl⟩
  · by_cases h2 : b < a
    · rw [cmpI_gt h2]
      go_enter Tryz.func97, Tryz.ntmps97
      go_wp2
      go_ret
      exact ⟨rfl, rfl⟩
    · rw [cmpI_eq (by omega)]
      go_enter Tryz.func97, Tryz.ntmps97
      go_wp2
      go_ret
      exact ⟨rfl, rfl⟩

theorem cmpI_ne {a b : Int} (h : ¬ a = b) : cmpI a b ≠ 0 := by unfold cmpI; split <;> (try split) <;> omega

theorem orI_zero {x : Int} {l : List Int} (h : x = 0) : orI (x :: l) = orI l := if_pos h
theorem orI_ne {x : Int} {l : List Int} (h : x ≠ 0) : orI (x :: l) = x := if_neg h
theorem orI_one (x : Int) : orI [x] = x := by
  by_cases h : x = 0
  · rw [orI_zero h, h]; rfl
  · exact orI_ne h

structure Kk where
  typ : Int
  id : Int
  len : Int
  router : Int
deriving DecidableEq, Inhabited
def keyE (k : Kk) : List Value := [.int .i64 k.typ, .int .u32 k.id, .int .i64 k.len, .int .u32 k.router]
def kkCmp (a b : Kk) : Int := orI [cmpI a.typ b.typ, cmpI a.id b.id, cmpI a.len b.len, cmpI a.router b.router]

set_option maxHeartbeats 1000000 in
theorem key_calls (t id len r seq age sum : Int) (w : World) : Calls Tryz.prog 27 #[.agg #[.int .i64 t, .int .u32 id, .int .i64 len, .int .u32 r, .int .i64 seq, .int .i64 age, .int .i64 sum]] w fun e w' => e = .returned (.agg (keyE ⟨t, id, len, r⟩).toArray) ∧ Gr w w' := by
  go_enter Tryz.func27, Tryz.ntmps27
  go_wp2_with fail
  exact bodyPost_ret (v := .agg #[.int .i64 t, .int .u32 id, .int .i64 len, .int .u32 r]) (by simp [results, Tryz.results27, go_sem]) rfl ⟨rfl, by repeat (first | exact Gr.refl _ | refine Gr.drew ?_ | refine Gr.alloc ?_ _ | refine Gr.setCell ?_ (by simp) _)⟩

set_option maxHeartbeats 1000000 in
theorem links_raw (x0 y0 x1 y1 x2 y2 x3 y3 : Int) (w : World) : Calls Tryz.prog 82 #[.agg #[.int .i64 x0, .int .u32 x1, .int .u32 x2, .int .i64 x3], .agg #[.int .i64 y0, .int .u32 y1, .int .u32 y2, .int .i64 y3]] w fun e w' => e = .returned (.int .i64 (orI [cmpI x0 y0, cmpI x1 y1, cmpI x2 y2])) ∧ Gr w w' := by
  by_cases h0 : x0 = y0
  · subst h0
    have e0 : cmpI x0 x0 = 0 := cmpI_eq rfl
    have q0 : (x0 != x0) = false := by simp
    rw [orI_zero e0]
    clear e0
    by_cases h1 : x1 = y1
    · subst h1
      have e1 : cmpI x1 x1 = 0 := cmpI_eq rfl
      have q1 : (x1 != x1) = false := by simp
      rw [orI_zero e1]
      clear e1
      rw [orI_one]
      have C := Lib.hid (fun W => words_calls x2 y2 W)
      generalize cmpI x2 y2 = r at C ⊢
      go_enter Tryz.func82, Tryz.ntmps82
      go_wp2_with fail
      refine (C.out _).mono ?_
      rintro e w1 ⟨rfl, rfl⟩
      go_wp2_with fail
      go_ret
      exact ⟨rfl, ((Gr.refl _).alloc _).alloc _⟩
    · have n1 := cmpI_ne h1
      have q1 : (x1 != y1) = true := by simpa using h1
      have p1 : (x1 == y1) = false := by simpa using h1
      rw [orI_ne n1]
      clear n1 h1
      have C := Lib.hid (fun W => words_calls x1 y1 W)
      generalize cmpI x1 y1 = r at C ⊢
      go_enter Tryz.func82, Tryz.ntmps82
      go_wp2_with fail
      refine (C.out _).mono ?_
      rintro e w1 ⟨rfl, rfl⟩
      go_wp2_with fail
      go_ret
      exact ⟨rfl, ((Gr.refl _).alloc _).alloc _⟩
  · have n0 := cmpI_ne h0
    have q0 : (x0 != y0) = true := by simpa using h0
    have p0 : (x0 == y0) = false := by simpa using h0
    rw [orI_ne n0]
    clear n0 h0
    have C := Lib.hid (fun W => numbers_calls x0 y0 W)
    generalize cmpI x0 y0 = r at C ⊢
    go_enter Tryz.func82, Tryz.ntmps82
    go_wp2_with fail
    refine (C.out _).mono ?_
    rintro e w1 ⟨rfl, rfl⟩
    go_wp2_with fail
    go_ret
    exact ⟨rfl, ((Gr.refl _).alloc _).alloc _⟩

end Go.Proofs.YtddageahmgaigaaGreat

namespace Go.Proofs.YtddageahmgaigaaGreat
open Go.RowKit

def lkOf (x : Lsa) : Kk := ⟨x.typ, x.id, x.len, x.router⟩

def LsasAt (w : World) (v : Value) (l : List Lsa) : Prop := SlV 15 w v (l.map lsaE)
theorem LsasAt.below {w w' : World} {v : Value} {l : List Lsa} (h : LsasAt w v l) (hb : Below w.heap.size w w') : LsasAt w' v l := SlV.below h hb

def LsaCells (w : World) (b o : Nat) (x : Lsa) : Prop :=
  (w.cell? ⟨b, o, none⟩ = some (.int .i64 x.typ) ∧ w.cell? ⟨b, o + 1, none⟩ = some (.int .u32 x.id) ∧ w.cell? ⟨b, o + 2, none⟩ = some (.int .i64 x.len) ∧ w.cell? ⟨b, o + 3, none⟩ = some (.int .u32 x.router) ∧ w.cell? ⟨b, o + 4, none⟩ = some (.int .i64 x.seq)) ∧
  (w.cell? ⟨b, o + 5, none⟩ = some (.int .i64 x.age) ∧ w.cell? ⟨b, o + 6, none⟩ = some (.int .i64 x.sum) ∧ w.cell? ⟨b, o + 7, none⟩ = some (.bool x.border) ∧ w.cell? ⟨b, o + 8, none⟩ = some (.bool x.boundary) ∧ w.cell? ⟨b, o + 9, none⟩ = some (.slice x.la x.ln x.lc)) ∧
  (w.cell? ⟨b, o + 10, none⟩ = some (.slice x.aa x.an x.ac) ∧ w.cell? ⟨b, o + 11, none⟩ = some (.int .i64 x.cost) ∧ w.cell? ⟨b, o + 12, none⟩ = some (.bool x.second) ∧ w.cell? ⟨b, o + 13, none⟩ = some (.int .u32 x.fwd) ∧ w.cell? ⟨b, o + 14, none⟩ = some (.int .i64 x.tag))

theorem LsaCells.below {w w' : World} {b o : Nat} {x : Lsa} (h : LsaCells w b o x) {B : Nat} (hb : Below B w w') (hlt : b < B) : LsaCells w' b o x := by
  have e := fun k => World.cell?_of_block (w := w) (w' := w') (a := ⟨b, k, none⟩) (hb.block b hlt)
  obtain ⟨⟨h0, h1, h2, h3, h4⟩, ⟨h5, h6, h7, h8, h9⟩, ⟨h10, h11, h12, h13, h14⟩⟩ := h
  exact ⟨⟨(e _).trans h0, (e _).trans h1, (e _).trans h2, (e _).trans h3, (e _).trans h4⟩, ⟨(e _).trans h5, (e _).trans h6, (e _).trans h7, (e _).trans h8, (e _).trans h9⟩, ⟨(e _).trans h10, (e _).trans h11, (e _).trans h12, (e _).trans h13, (e _).trans h14⟩⟩

theorem LsasAt.get {w : World} {v : Value} {l : List Lsa} (h : LsasAt w v l) : ∃ a cap, v = .slice a l.length cap ∧ l.length ≤ 9223372036854775807 ∧ (0 < l.length → ∃ b off, a = some ⟨b, off, none⟩ ∧ b < w.heap.size ∧ ∀ i (h : i < l.length), LsaCells w b (off + i * 15) l[i]) := by
  have hl := SlV.len h
  obtain ⟨a, cap, h0, h1, h2, hn, h3⟩ := h
  simp only [List.length_map] at h0 h1 h3 hl
  refine ⟨a, cap, h0, hl, fun hp => ?_⟩
  obtain ⟨b, off, e, h4, h5⟩ := h3 hp
  refine ⟨b, off, e, h4, fun i hi => ?_⟩
  have := h5 i (by simpa using hi)
  simp only [List.getElem_map, lsaE] at this
  exact ⟨⟨this 0 _ rfl, this 1 _ rfl, this 2 _ rfl, this 3 _ rfl, this 4 _ rfl⟩, ⟨this 5 _ rfl, this 6 _ rfl, this 7 _ rfl, this 8 _ rfl, this 9 _ rfl⟩, ⟨this 10 _ rfl, this 11 _ rfl, this 12 _ rfl, this 13 _ rfl, this 14 _ rfl⟩⟩

end Go.Proofs.YtddageahmgaigaaGreat
