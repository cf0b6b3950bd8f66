/-
  slices.Grow of nil, slices.Concat of two, at hops.
-/
import Derived.Test.YtiemmejpaahbpaaLeaf
import Derived.Lib.AppendZerosOnto
import Derived.Laws.AppendOwn
import Derived.OwnWalk
namespace Go.Proofs.Ytiemmejpaahbpaa
open Go.RowKit

theorem Try.infoHop : (Try.prog.info? 53).map (fun i => (i.zero, i.size, i.bytes)) = some (some (.agg #[.int .i64 0, .int .u32 0, .int .u32 0]), 3, 16) := by kernel_rfl

/-- a slice of the call's own with the hops l -/
def HopsOwn (base : Nat) (w : World) (v : Value) (l : List Ls.Hop) : Prop := w.ownsRow base 53 3 v l.length (l.map hopE).flatten

theorem hopE_len (l : List Ls.Hop) : ∀ c ∈ l.map hopE, c.length = 3 := by
  intro c hc
  obtain ⟨h, _, rfl⟩ := List.mem_map.1 hc
  rfl

theorem HopsOwn.at {base : Nat} {w : World} {v : Value} {l : List Ls.Hop} (h : HopsOwn base w v l) : HopsAt w v l := SlV.of_own (hopE_len l) (by simpa [HopsOwn] using h)

def GrowPost (w : World) (e : Ending) (w' : World) : Prop := ∃ v, e = .returned v ∧ HopsOwn w.heap.size w' v [] ∧ Below w.heap.size w w'

set_option maxHeartbeats 800000 in
set_option maxRecDepth 100000 in
theorem grow_nil (n : Nat) (hn : n * 16 ≤ 140737488355328) (w : World) : Calls Try.prog 59 #[.slice none 0 0, .int .i64 n] w (GrowPost w) := by
  obtain ⟨i0, hi, hz0, hz1, hz2⟩ := info_parts Try.infoHop
  by_cases h0 : n = 0
  · subst h0
    go_enter Try.func59, Try.ntmps59
    go_wp2_with fail
    go_ret
    exact ⟨_, rfl, World.ownsRow_nil _ _ _ _, Below.refl _ _⟩
  · have h := fun ty => Lib.run_append_grow_zeros (P := Try.prog) w 26 3 ty 53 i0 _ .i64 .i64 Try.underlying26 Try.underlying3 hi hz0 none 0 0 [] (run_firstCells_none w.drew i0.size 0 0 0) n (by omega) (by omega) (by omega) (by omega) (by rw [hz2]; omega) (by rw [hz2, Nat.zero_add]; exact growslice_fits (by omega) (by omega))
    rw [Nat.zero_add] at h
    have hGn : n ≤ grownCap w n 0 53 := grownCap_ge w _ _ _
    have hG : grownCap w n 0 53 ≤ maxLen := grownCap_le_maxLen w n 0 53 (by unfold maxLen; omega)
    generalize grownCap w n 0 53 = G at h hGn hG
    have h1 : ¬ ((n : Int) < 0) := by omega
    have h4 : (n : Int) > 0 := by omega
    have hG2 : G ≤ 9223372036854775807 := by unfold maxLen at hG; omega
    have PO0 : GrowPost w (.returned (.slice (some ⟨w.heap.size, 0, none⟩) 0 G)) (w.drew.alloc (.cells (([] : List Value).toArray ++ Builtin.zeroCells (Value.agg #[Value.int .i64 0, Value.int .u32 0, Value.int .u32 0]).cells n ++ Builtin.zeroCells (Value.agg #[Value.int .i64 0, Value.int .u32 0, Value.int .u32 0]).cells (G - n)) 53)) :=
      ⟨_, rfl, World.ownsRow_made w.drew _ G (Nat.le_refl _) hG (by simp [size_zeroCells, Value.cells]; omega), ((Below.refl _ _).drew).alloc (Nat.le_refl _) _⟩
    have PO := Lib.hid PO0
    clear PO0
    generalize (([] : List Value).toArray ++ Builtin.zeroCells (Value.agg #[Value.int .i64 0, Value.int .u32 0, Value.int .u32 0]).cells n ++ Builtin.zeroCells (Value.agg #[Value.int .i64 0, Value.int .u32 0, Value.int .u32 0]).cells (G - n)) = C at h PO
    have HH := Lib.hid h
    clear h hn hG hi hz0 hz1 hz2 i0 h0
    go_enter Try.func59, Try.ntmps59
    go_wp2_with (at_builtin; refine Lib.wpList_append_run _ rfl _ _ _ _ rfl _ _ rfl rfl _ _ (HH.out _) ?_)
    go_ret
    exact PO.out

end Go.Proofs.Ytiemmejpaahbpaa
