/-
  Ways and routes in memory.
-/
import Derived.Test.YtogdconliofblaaGreatMrg
import Derived.Test.YtogdconliofblaaGreatCmr
import Derived.Test.YtogdconliofblaaGreatMap
namespace Go.Proofs.YtogdconliofblaaGreat
open Go.RowKit

/-- a way as it lies in memory, and its hops -/
structure Rch where
  router : Int
  area : Int
  inter : Bool
  border : Bool
  boundary : Bool
  cost : Int
  ha : Option Addr
  hn : Nat
  hc : Nat
  hops : List Ls.Hop

def rchE (r : Rch) : List Value := [.int .u32 r.router, .int .u32 r.area, .bool r.inter, .bool r.border, .bool r.boundary, .int .i64 r.cost, .slice r.ha r.hn r.hc]

structure ReachAt (w : World) (v : Value) (l : List Rch) : Prop where
  sl : SlV 7 w v (l.map rchE)
  hops : ∀ x ∈ l, HopsAt w (.slice x.ha x.hn x.hc) x.hops

theorem ReachAt.below {w w' : World} {v : Value} {l : List Rch} (h : ReachAt w v l) (hb : Below w.heap.size w w') : ReachAt w' v l :=
  ⟨h.sl.below hb, fun x hx => (h.hops x hx).below hb⟩

theorem ReachAt.get {w : World} {v : Value} {l : List Rch} (h : ReachAt w v l) : ∃ a cap, v = .slice a l.length cap ∧ l.length ≤ 9223372036854775807 ∧ (0 < l.length → ∃ b off, a = some ⟨b, off, none⟩ ∧ b < w.heap.size ∧ ∀ i (h : i < l.length),
    w.cell? ⟨b, off + i * 7, none⟩ = some (.int .u32 l[i].router) ∧ w.cell? ⟨b, off + i * 7 + 1, none⟩ = some (.int .u32 l[i].area) ∧ w.cell? ⟨b, off + i * 7 + 2, none⟩ = some (.bool l[i].inter) ∧ w.cell? ⟨b, off + i * 7 + 3, none⟩ = some (.bool l[i].border) ∧ w.cell? ⟨b, off + i * 7 + 4, none⟩ = some (.bool l[i].boundary) ∧ w.cell? ⟨b, off + i * 7 + 5, none⟩ = some (.int .i64 l[i].cost) ∧ w.cell? ⟨b, off + i * 7 + 6, none⟩ = some (.slice l[i].ha l[i].hn l[i].hc)) := by
  have hl := h.sl.len
  obtain ⟨a, cap, h0, h1, h2, hn, h3⟩ := h.sl
  simp only [List.length_map] at h0 h1 h3 hl
  refine ⟨a, cap, h0, hl, fun hp => ?_⟩
  obtain ⟨b, off, e, h4, h5⟩ := h3 hp
  refine ⟨b, off, e, h4, fun i hi => ?_⟩
  have := h5 i (by simpa using hi)
  simp only [List.getElem_map, rchE] at this
  exact ⟨this 0 _ rfl, this 1 _ rfl, this 2 _ rfl, this 3 _ rfl, this 4 _ rfl, this 5 _ rfl, this 6 _ rfl⟩

def hopSum (l : List Rch) : Nat := (l.map fun x => x.hops.length).sum

theorem take_fold {α β : Type} (f : β → α → β) (b : β) (l : List α) (k : Nat) (h : k < l.length) : (l.take (k + 1)).foldl f b = f ((l.take k).foldl f b) l[k] := by
  rw [List.take_succ_eq_append_getElem h, List.foldl_append]; rfl

/-- a route in memory, with its hops -/
structure RtH where
  rt : Rt
  hops : List Ls.Hop
deriving Inhabited

structure RoutesAt (w : World) (v : Value) (l : List RtH) : Prop where
  sl : SlV 9 w v (l.map fun x => rtE x.rt)
  hops : ∀ x ∈ l, HopsAt w x.rt.hv x.hops

theorem RoutesAt.below {w w' : World} {v : Value} {l : List RtH} (h : RoutesAt w v l) (hb : Below w.heap.size w w') : RoutesAt w' v l :=
  ⟨h.sl.below hb, fun x hx => (h.hops x hx).below hb⟩

/-- the nine cells of a route -/
def RtCells (w : World) (b o : Nat) (r : Rt) : Prop :=
  w.cell? ⟨b, o, none⟩ = some (.int .u32 r.pfx.addr) ∧ w.cell? ⟨b, o + 1, none⟩ = some (.int .i64 r.pfx.len) ∧ w.cell? ⟨b, o + 2, none⟩ = some (.int .i64 r.proto) ∧ w.cell? ⟨b, o + 3, none⟩ = some (.int .u32 r.area) ∧ w.cell? ⟨b, o + 4, none⟩ = some (.int .i64 r.cost) ∧
    w.cell? ⟨b, o + 5, none⟩ = some (.bool r.second) ∧ w.cell? ⟨b, o + 6, none⟩ = some (.int .i64 r.cost2) ∧ w.cell? ⟨b, o + 7, none⟩ = some (.int .i64 r.tag) ∧ w.cell? ⟨b, o + 8, none⟩ = some (.slice r.ha r.hn r.hc)

theorem RtCells.below {w w' : World} {b o : Nat} {r : Rt} (h : RtCells w b o r) {B : Nat} (hb : Below B w w') (hlt : b < B) : RtCells w' b o r := by
  have e := fun k => World.cell?_of_block (w := w) (w' := w') (a := ⟨b, k, none⟩) (hb.block b hlt)
  obtain ⟨h0, h1, h2, h3, h4, h5, h6, h7, h8⟩ := h
  exact ⟨(e _).trans h0, (e _).trans h1, (e _).trans h2, (e _).trans h3, (e _).trans h4, (e _).trans h5, (e _).trans h6, (e _).trans h7, (e _).trans h8⟩

theorem RoutesAt.get {w : World} {v : Value} {l : List RtH} (h : RoutesAt w v l) : ∃ a cap, v = .slice a l.length cap ∧ l.length ≤ 9223372036854775807 ∧ (0 < l.length → ∃ b off, a = some ⟨b, off, none⟩ ∧ b < w.heap.size ∧ ∀ i (h : i < l.length), RtCells w b (off + i * 9) l[i].rt) := by
  have hl := h.sl.len
  obtain ⟨a, cap, h0, h1, h2, hn, h3⟩ := h.sl
  simp only [List.length_map] at h0 h1 h3 hl
  refine ⟨a, cap, h0, hl, fun hp => ?_⟩
  obtain ⟨b, off, e, h4, h5⟩ := h3 hp
  refine ⟨b, off, e, h4, fun i hi => ?_⟩
  have := h5 i (by simpa using hi)
  simp only [List.getElem_map, rtE] at this
  exact ⟨this 0 _ rfl, this 1 _ rfl, this 2 _ rfl, this 3 _ rfl, this 4 _ rfl, this 5 _ rfl, this 6 _ rfl, this 7 _ rfl, this 8 _ rfl⟩

/-- a route, its hops as a list -/
structure Rp where
  pfx : Ls.Pfx
  proto : Int
  area : Int
  cost : Int
  second : Bool
  cost2 : Int
  tag : Int
  hops : List Ls.Hop
deriving DecidableEq, Inhabited

def Rp.rt (o : Rp) (a : Option Addr) (n c : Nat) : Rt := ⟨o.pfx, o.proto, o.area, o.cost, o.second, o.cost2, o.tag, a, n, c⟩
def RtH.pure (x : RtH) : Rp := ⟨x.rt.pfx, x.rt.proto, x.rt.area, x.rt.cost, x.rt.second, x.rt.cost2, x.rt.tag, x.hops⟩

theorem Tryz.infoRt : (Tryz.prog.info? 57).map (fun i => (i.zero, i.size, i.bytes)) = some (some (.agg #[.int .u32 0, .int .i64 0, .int .i64 0, .int .u32 0, .int .i64 0, .bool false, .int .i64 0, .int .i64 0, .slice none 0 0]), 9, 88) := by kernel_rfl
theorem Tryz.zeroRt (w : World) : (zeroValue 57).run Tryz.prog w = .ok (.agg #[.int .u32 0, .int .i64 0, .int .i64 0, .int .u32 0, .int .i64 0, .bool false, .int .i64 0, .int .i64 0, .slice none 0 0]) w := by kernel_rfl

def rtV (x : RtH) : Value := .agg (rtE x.rt).toArray

/-- hops do not lie in a map's block -/
theorem HopsAt.grown {w w' : World} {v : Value} {l : List Ls.Hop} {mb : Nat} (h : HopsAt w v l) (hm : ∀ o v, w.cell? ⟨mb, o, none⟩ ≠ some v) (hg : w.grownBy w' (some mb)) : HopsAt w' v l := by
  obtain ⟨a, cap, rfl, h1, h2, hn, h3⟩ := h
  refine ⟨a, cap, rfl, h1, h2, hn, fun h0 => ?_⟩
  obtain ⟨b, off, rfl, h4, h5⟩ := h3 h0
  refine ⟨b, off, rfl, Nat.lt_of_lt_of_le h4 hg.size, fun i h j u hu => ?_⟩
  have hc := h5 i h j u hu
  have hne : b ≠ mb := by rintro rfl; exact hm _ _ hc
  exact hg.cell hc (by simpa using hne)

theorem MapF.noCell {P : Program} {k : TypeId} {α β : Type} {ok : α → Prop} {lit : α → Lit} {mkV : β → Value} {w : World} {b n : Nat} {f : α → Option β} (h : MapF P k ok lit mkV w b n f) (o : Nat) (v : Value) : w.cell? ⟨b, o, none⟩ ≠ some v := by
  obtain ⟨D, ⟨es, clock, hb, _⟩, _⟩ := h
  simp [World.cell?, hb]

def FinePost (w : World) (P : Prop) (e : Ending) (w' : World) : Prop := ∃ b : Bool, e = .returned (.bool b) ∧ Below w.heap.size w w' ∧ (b = true → P)
def costFine (c : Int) : Prop := 0 ≤ c ∧ c ≤ 1099511627776
def rchAt (l : List Rch) (k : Nat) : Rch := if h : k < l.length then l[k] else ⟨0, 0, false, false, false, 0, none, 0, 0, []⟩
theorem rchAt_eq {l : List Rch} {k : Nat} (h : k < l.length) : rchAt l k = l[k] := dif_pos h
def rthAt (l : List RtH) (k : Nat) : RtH := l.getD k default
theorem rthAt_eq {l : List RtH} {k : Nat} (c : k < l.length) : rthAt l k = l[k] := by
  rw [rthAt, List.getD_eq_getElem?_getD, List.getElem?_eq_getElem c]; rfl

theorem rtE_len (l : List Rt) : ∀ c ∈ l.map rtE, c.length = 9 := by
  intro c hc
  obtain ⟨h, _, rfl⟩ := List.mem_map.1 hc
  rfl
theorem grown_of_below {w w' : World} (hb : Below w.heap.size w w') (row : Option Nat) : w.grownBy w' row := ⟨hb.os, hb.tape, hb.output, hb.size, fun k hk _ => hb.block k hk⟩


end Go.Proofs.YtogdconliofblaaGreat
