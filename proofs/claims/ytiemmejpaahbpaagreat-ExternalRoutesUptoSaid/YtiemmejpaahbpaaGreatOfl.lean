/-
  external.offer: what its walk carries.
-/
import Derived.Test.YtiemmejpaahbpaaGreatFwd
import Derived.Test.YtiemmejpaahbpaaGreatLsa
import Derived.Deep.DeepCutAuto
import Derived.StillTailTactics
import Derived.BigRegion
namespace Go.Proofs.YtiemmejpaahbpaaGreat
open Go.RowKit

/-- a route, its hops as a list -/
structure Rp where
  pfx : Ls.Pfx
  proto : Int
  area : Int
  cost : Int
  second : Bool
  cost2 : Int
  tag : Int
  hops : List Ls.Hop
deriving DecidableEq, Inhabited

def Rp.rt (o : Rp) (a : Option Addr) (n c : Nat) : Rt := ⟨o.pfx, o.proto, o.area, o.cost, o.second, o.cost2, o.tag, a, n, c⟩
def RtH.pure (x : RtH) : Rp := ⟨x.rt.pfx, x.rt.proto, x.rt.area, x.rt.cost, x.rt.second, x.rt.cost2, x.rt.tag, x.hops⟩

/-- the way to the router of an advertisement, or to its forwarding address -/
def offWay (x : Lsa) (reach : List Rch) (inner : List RtH) : Int × List Ls.Hop × Bool :=
  if (wayP x.router reach).found = true ∧ x.fwd ≠ 0 then ((lookR x.fwd inner).rt.cost, (lookR x.fwd inner).hops.map (fwdHop x.fwd), (lookO x.fwd inner inner.length).isSome)
  else ((wayP x.router reach).cost, (wayP x.router reach).hops, (wayP x.router reach).found)

def offR (x : Lsa) (reach : List Rch) (inner : List RtH) : Rp :=
  ⟨lsaPfx x, 5, 0, if x.second then (offWay x reach inner).1 else (offWay x reach inner).1 + x.cost, x.second, if x.second then x.cost else 0, x.tag, Ls.merge Ls.hopLt (offWay x reach inner).2.1 []⟩
def offOk (x : Lsa) (reach : List Rch) (inner : List RtH) : Bool :=
  ((offWay x reach inner).2.2 && decide ((offR x reach inner).cost ≤ 16777216)) && decide (0 < (offR x reach inner).hops.length)

def OffPost (w : World) (o : Rp) (ok : Bool) (e : Ending) (w' : World) : Prop :=
  ∃ a n c, e = .returned (.tuple #[.agg (rtE (o.rt a n c)).toArray, .bool ok]) ∧ HopsAt w' (.slice a n c) o.hops ∧ Below w.heap.size w w'

/-- where the ways meet -/
structure OffMid (W0 : World) (c : Int) (hs : List Ls.Hop) (f : Bool) (s8 s9 s10 : Value) (wx : World) : Prop where
  e8 : s8 = .int .i64 c
  e10 : s10 = .bool f
  h9 : HopsAt wx s9 hs
  bel : Below W0.heap.size W0 wx

/-- behind the route's making -/
structure OffR5 (W4 : World) (pa pl c : Int) (second : Bool) (tag : Int) (hs : List Ls.Hop) (s13 : Value) (wx : World) : Prop where
  ex : ∃ n va vn vc, s13 = .pointer (some ⟨n, 0, none⟩) ∧ W4.heap.size ≤ n ∧ wx.heap[n]? = some (.cells #[.int .u32 pa, .int .i64 pl, .int .i64 5, .int .u32 0, .int .i64 c, .bool second, .int .i64 0, .int .i64 tag, .slice va vn vc] 36 (0, 0)) ∧ HopsAt wx (.slice va vn vc) hs ∧ ∀ b off, va = some ⟨b, off, none⟩ → b ≠ n ∧ W4.heap.size ≤ b
  bel : Below W4.heap.size W4 wx

theorem blk9 {w : World} {b : Nat} {c0 c1 c2 c3 c4 c5 c6 c7 c8 : Value} {t : TypeId} (h : w.heap[b]? = some (.cells #[c0, c1, c2, c3, c4, c5, c6, c7, c8] t (0, 0))) :
    (w.cell? ⟨b, 0, none⟩ = some c0 ∧ w.cell? ⟨b, 1, none⟩ = some c1 ∧ w.cell? ⟨b, 2, none⟩ = some c2 ∧ w.cell? ⟨b, 3, none⟩ = some c3 ∧ w.cell? ⟨b, 4, none⟩ = some c4 ∧ w.cell? ⟨b, 5, none⟩ = some c5 ∧ w.cell? ⟨b, 6, none⟩ = some c6 ∧ w.cell? ⟨b, 7, none⟩ = some c7 ∧ w.cell? ⟨b, 8, none⟩ = some c8) ∧ ∀ i, w.frozen? ⟨b, i, none⟩ = false :=
  ⟨⟨blk_cell h rfl, blk_cell h rfl, blk_cell h rfl, blk_cell h rfl, blk_cell h rfl, blk_cell h rfl, blk_cell h rfl, blk_cell h rfl, blk_cell h rfl⟩, blk_free h⟩

theorem own_ne {base : Nat} {w : World} {va : Option Addr} {vn vc : Nat} {l : List Ls.Hop} (h : HopsOwn base w (.slice va vn vc) l) {n m : Nat} (hn : n < base ∨ w.heap.size ≤ n) (hm : m ≤ base) : ∀ b off, va = some ⟨b, off, none⟩ → b ≠ n ∧ m ≤ b := by
  rintro b off rfl
  rcases own_cases h with ⟨e, _⟩ | ⟨g, cap, cur, e, h1, h2, _⟩
  · cases e
  · simp only [Value.slice.injEq, Option.some.injEq, Addr.mk.injEq] at e
    rw [e.1.1]; exact ⟨by omega, by omega⟩

/-- the route's block is made behind Merge -/
theorem OffR5.after {W4 W w5 : World} {pa pl c : Int} {second : Bool} {tag : Int} {hs : List Ls.Hop} {va : Option Addr} {vn vc : Nat} (hb : Below W4.heap.size W4 W) (O : HopsOwn W.heap.size w5 (.slice va vn vc) hs) (B : Below W.heap.size W w5) :
    OffR5 W4 pa pl c second tag hs (.pointer (some ⟨w5.heap.size, 0, none⟩)) (w5.alloc (.cells #[.int .u32 pa, .int .i64 pl, .int .i64 5, .int .u32 0, .int .i64 c, .bool second, .int .i64 0, .int .i64 tag, .slice va vn vc] 36)) :=
  ⟨⟨_, va, vn, vc, rfl, Nat.le_trans hb.size B.size, alloc_new _ _, O.at.below ((Below.refl _ _).alloc (Nat.le_refl _) _), own_ne O (.inr (Nat.le_refl _)) hb.size⟩, (hb.trans (B.mono hb.size)).alloc (Nat.le_trans hb.size B.size) _⟩
/-- .. ahead of it -/
theorem OffR5.before {W4 w5 : World} {pa pl c : Int} {second : Bool} {tag : Int} {hs : List Ls.Hop} {va : Option Addr} {vn vc : Nat} {c0 c1 c2 c3 c4 c5 c6 c7 c8 : Value} {o : Obj} (bz : w5.heap[W4.heap.size]? = some (.cells #[c0, c1, c2, c3, c4, c5, c6, c7, c8] 36 (0, 0))) (O : HopsOwn (W4.alloc o).drew.heap.size w5 (.slice va vn vc) hs) (B : Below (W4.alloc o).drew.heap.size (W4.alloc o).drew w5) :
    OffR5 W4 pa pl c second tag hs (.pointer (some ⟨W4.heap.size, 0, none⟩)) (setRt w5 W4.heap.size ⟨⟨pa, pl⟩, 5, 0, c, second, 0, tag, va, vn, vc⟩) := by
  have hb : Below W4.heap.size W4 (W4.alloc o).drew := ((Below.refl _ _).alloc (Nat.le_refl _) _).drew
  have hlt : W4.heap.size < (W4.alloc o).drew.heap.size := by show _ < (W4.alloc o).heap.size; simp
  refine ⟨⟨_, va, vn, vc, rfl, Nat.le_refl _, setRt_blk bz _, ?_, own_ne O (.inl hlt) (Nat.le_of_lt hlt)⟩, setRt_below (hb.trans (B.mono hb.size)) (Nat.le_refl _) _⟩
  unfold setRt
  exact ((((((((((O.other _ _ hlt).other _ _ hlt).other _ _ hlt).other _ _ hlt).other _ _ hlt).other _ _ hlt).other _ _ hlt).other _ _ hlt).other _ _ hlt)).at

/-- .. and its costs -/
structure OffFin (W4 : World) (o : Rp) (s13 : Value) (wx : World) : Prop where
  ex : ∃ n va vn vc, s13 = .pointer (some ⟨n, 0, none⟩) ∧ W4.heap.size ≤ n ∧ wx.heap[n]? = some (.cells (rtE (o.rt va vn vc)).toArray 36 (0, 0)) ∧ HopsAt wx (.slice va vn vc) o.hops ∧ ∀ b off, va = some ⟨b, off, none⟩ → W4.heap.size ≤ b
  bel : Below W4.heap.size W4 wx

theorem HopsAt.store {w : World} {va : Option Addr} {vn vc : Nat} {hs : List Ls.Hop} (h : HopsAt w (.slice va vn vc) hs) {b : Nat} (hb : ∀ b' off, va = some ⟨b', off, none⟩ → b' ≠ b) (i : Nat) (u : Value) : HopsAt (w.setCell ⟨b, i, none⟩ u) (.slice va vn vc) hs := by
  obtain ⟨a, cap, e, h1, h2, hn, h3⟩ := h
  cases e
  refine ⟨_, _, rfl, h1, h2, hn, fun h0 => ?_⟩
  obtain ⟨b', off, rfl, h4, h5⟩ := h3 h0
  have hne := hb b' off rfl
  refine ⟨b', off, rfl, by simpa [World.setCell] using h4, fun i' h j u' hu => ?_⟩
  rw [World.cell?_of_block (w := w) (a := ⟨b', _, none⟩) (blk_other _ _ _ _ hne)]
  exact h5 i' h j u' hu
theorem OffFin.set6 {W4 wc : World} {pa pl c : Int} {tag k : Int} {hs : List Ls.Hop} {n : Nat} {va : Option Addr} {vn vc : Nat} (hn : W4.heap.size ≤ n) (hne : ∀ b off, va = some ⟨b, off, none⟩ → b ≠ n ∧ W4.heap.size ≤ b)
    (bn : wc.heap[n]? = some (.cells #[.int .u32 pa, .int .i64 pl, .int .i64 5, .int .u32 0, .int .i64 c, .bool true, .int .i64 0, .int .i64 tag, .slice va vn vc] 36 (0, 0))) (H : HopsAt wc (.slice va vn vc) hs) (B : Below W4.heap.size W4 wc) :
    OffFin W4 ⟨⟨pa, pl⟩, 5, 0, c, true, k, tag, hs⟩ (.pointer (some ⟨n, 0, none⟩)) (wc.setCell ⟨n, 6, none⟩ (.int .i64 k)) := by
  have h1 := blk_set bn 6 (.int .i64 k)
  simp only [List.setIfInBounds_toArray, List.set_cons_zero, List.set_cons_succ] at h1
  exact ⟨⟨n, va, vn, vc, rfl, hn, h1, H.store (fun b o h => (hne b o h).1) _ _, fun b o h => (hne b o h).2⟩, B.setCell hn _⟩
theorem OffFin.set4 {W4 wc : World} {pa pl c : Int} {tag k : Int} {hs : List Ls.Hop} {n : Nat} {va : Option Addr} {vn vc : Nat} (hn : W4.heap.size ≤ n) (hne : ∀ b off, va = some ⟨b, off, none⟩ → b ≠ n ∧ W4.heap.size ≤ b)
    (bn : wc.heap[n]? = some (.cells #[.int .u32 pa, .int .i64 pl, .int .i64 5, .int .u32 0, .int .i64 c, .bool false, .int .i64 0, .int .i64 tag, .slice va vn vc] 36 (0, 0))) (H : HopsAt wc (.slice va vn vc) hs) (B : Below W4.heap.size W4 wc) :
    OffFin W4 ⟨⟨pa, pl⟩, 5, 0, k, false, 0, tag, hs⟩ (.pointer (some ⟨n, 0, none⟩)) (wc.setCell ⟨n, 4, none⟩ (.int .i64 k)) := by
  have h1 := blk_set bn 4 (.int .i64 k)
  simp only [List.setIfInBounds_toArray, List.set_cons_zero, List.set_cons_succ] at h1
  exact ⟨⟨n, va, vn, vc, rfl, hn, h1, H.store (fun b o h => (hne b o h).1) _ _, fun b o h => (hne b o h).2⟩, B.setCell hn _⟩

theorem HopsAt.drew {w : World} {v : Value} {l : List Ls.Hop} (h : HopsAt w v l) : HopsAt w.drew v l := h
theorem heap_drew (w : World) : w.drew.heap = w.heap := rfl

theorem OffPost.fin {w W : World} {o : Rp} {va : Option Addr} {vn vc : Nat} {c0 c1 c2 c3 c4 c5 c6 c7 c8 : Value} (BW : Below w.heap.size w W) (bz : W.heap[w.heap.size + 1]? = some (.cells #[c0, c1, c2, c3, c4, c5, c6, c7, c8] 36 (0, 0)))
    (H : HopsAt W (.slice va vn vc) o.hops) (hne : ∀ b off, va = some ⟨b, off, none⟩ → b ≠ w.heap.size + 1) :
    (∀ ok, OffPost w o ok (.returned (.tuple #[.agg (rtE (o.rt va vn vc)).toArray, .bool ok])) (setRt W (w.heap.size + 1) (o.rt va vn vc)).drew) ∧ (setRt W (w.heap.size + 1) (o.rt va vn vc)).drew.heap[w.heap.size + 1]? = some (.cells (rtE (o.rt va vn vc)).toArray 36 (0, 0)) := by
  have hH : HopsAt (setRt W (w.heap.size + 1) (o.rt va vn vc)) (.slice va vn vc) o.hops := by
    unfold setRt
    exact (((((((((H.store hne _ _).store hne _ _).store hne _ _).store hne _ _).store hne _ _).store hne _ _).store hne _ _).store hne _ _).store hne _ _)
  have hS : (setRt W (w.heap.size + 1) (o.rt va vn vc)).heap[w.heap.size + 1]? = some (.cells (rtE (o.rt va vn vc)).toArray 36 (0, 0)) := setRt_blk bz _
  have hB : Below w.heap.size w (setRt W (w.heap.size + 1) (o.rt va vn vc)) := setRt_below BW (Nat.le_succ _) _
  generalize setRt W (w.heap.size + 1) (o.rt va vn vc) = Y at *
  exact ⟨fun ok => ⟨va, vn, vc, rfl, hH.drew, hB.drew⟩, by rw [heap_drew]; exact hS⟩

theorem wayP_length (router : Int) (l : List Rch) : (wayP router l).hops.length ≤ hopSum l := by
  have h1 := wayP_len router l l.length (Nat.le_refl _)
  have h2 := hopSum_le l l.length
  rw [List.take_length] at h1 h2
  exact h1

end Go.Proofs.YtiemmejpaahbpaaGreat
