/-
  Announcements in memory, and the error of a list of announcements.
-/
import Derived.Test.YtiemmejpaahbpaaGreatLes
import Derived.Test.YtiemmejpaahbpaaGreatSea
import Derived.Test.YtiemmejpaahbpaaGreatCmr
namespace Go.Proofs.YtiemmejpaahbpaaGreat
open Go.RowKit

/-- an announcement -/
structure Ext where
  pfx : Ls.Pfx
  cost : Int
  second : Bool
  fwd : Int
  tag : Int
deriving Inhabited

def extE (x : Ext) : List Value := [.int .u32 x.pfx.addr, .int .i64 x.pfx.len, .int .i64 x.cost, .bool x.second, .int .u32 x.fwd, .int .i64 x.tag]
def ExtsAt (w : World) (v : Value) (l : List Ext) : Prop := SlV 6 w v (l.map extE)
theorem ExtsAt.below {w w' : World} {v : Value} {l : List Ext} (h : ExtsAt w v l) (hb : Below w.heap.size w w') : ExtsAt w' v l := SlV.below h hb
theorem ExtsAt.get {w : World} {v : Value} {l : List Ext} (h : ExtsAt w v l) : ∃ a cap, v = .slice a l.length cap ∧ l.length ≤ 9223372036854775807 ∧ (0 < l.length → ∃ b off, a = some ⟨b, off, none⟩ ∧ b < w.heap.size ∧ ∀ i (h : i < l.length),
    w.cell? ⟨b, off + i * 6, none⟩ = some (.int .u32 l[i].pfx.addr) ∧ w.cell? ⟨b, off + i * 6 + 1, none⟩ = some (.int .i64 l[i].pfx.len) ∧ w.cell? ⟨b, off + i * 6 + 2, none⟩ = some (.int .i64 l[i].cost) ∧ w.cell? ⟨b, off + i * 6 + 3, none⟩ = some (.bool l[i].second) ∧ w.cell? ⟨b, off + i * 6 + 4, none⟩ = some (.int .u32 l[i].fwd) ∧ w.cell? ⟨b, off + i * 6 + 5, none⟩ = some (.int .i64 l[i].tag)) := by
  have hl := SlV.len h
  obtain ⟨a, cap, h0, h1, h2, hn, h3⟩ := h
  simp only [List.length_map] at h0 h1 h3 hl
  refine ⟨a, cap, h0, hl, fun hp => ?_⟩
  obtain ⟨b, off, e, h4, h5⟩ := h3 hp
  refine ⟨b, off, e, h4, fun i hi => ?_⟩
  have := h5 i (by simpa using hi)
  simp only [List.getElem_map, extE] at this
  exact ⟨this 0 _ rfl, this 1 _ rfl, this 2 _ rfl, this 3 _ rfl, this 4 _ rfl, this 5 _ rfl⟩

/-- the error of announcement k -/
def extErr (l : List Ext) (k : Nat) : Int :=
  if fitsB (l.getD k default).pfx.addr (l.getD k default).pfx.len = false then 1
  else if withinB (l.getD k default).cost 0 16777216 = false ∨ withinB (l.getD k default).tag 0 4294967295 = false then 5
  else if 0 < k ∧ Ls.pfxLt (l.getD (k - 1) default).pfx (l.getD k default).pfx = false then 16 else 0

/-- c is the error of a list of announcements -/
def ChkIs (l : List Ext) (c : Int) : Prop := (64 < l.length ∧ c = 4) ∨ (l.length ≤ 64 ∧ (((∀ i, i < l.length → extErr l i = 0) ∧ c = 0) ∨ ∃ k, k < l.length ∧ (∀ i, i < k → extErr l i = 0) ∧ extErr l k = c ∧ c ≠ 0))

theorem ChkIs.one {l : List Ext} {c d : Int} (h : ChkIs l c) (k : ChkIs l d) : c = d := by
  rcases h with ⟨h1, rfl⟩ | ⟨h1, ⟨h2, rfl⟩ | ⟨i, h2, h3, h4, h5⟩⟩ <;> rcases k with ⟨k1, rfl⟩ | ⟨k1, ⟨k2, rfl⟩ | ⟨j, k2, k3, k4, k5⟩⟩
  · rfl
  · omega
  · omega
  · omega
  · rfl
  · exact absurd ((h2 j k2).symm.trans k4) (Ne.symm k5)
  · omega
  · exact absurd (k2 i h2 ▸ h4) (Ne.symm h5)
  · rcases Nat.lt_trichotomy i j with e | e | e
    · have := k3 i e; rw [h4] at this; exact absurd this h5
    · subst e; rw [← h4, k4]
    · have := h3 j e; rw [k4] at this; exact absurd this k5

theorem getD_at {l : List Ext} {k : Nat} (c : k < l.length) : l.getD k default = l[k] := by
  rw [List.getD_eq_getElem?_getD, List.getElem?_eq_getElem c]; rfl

end Go.Proofs.YtiemmejpaahbpaaGreat
