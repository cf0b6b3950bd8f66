/-
  slices.Grow of nil, slices.Concat of two, at hops.
-/
/-
  slices.Concat of two rows of hops.
-/
import Derived.Test.YtogdconliofblaaGreatLeaf
import Derived.Lib.AppendZerosOnto
import Derived.Laws.AppendOwn
import Derived.OwnWalk
namespace Go.Proofs.YtogdconliofblaaGreat
open Go.RowKit

theorem Tryz.infoHop : (Tryz.prog.info? 60).map (fun i => (i.zero, i.size, i.bytes)) = some (some (.agg #[.int .i64 0, .int .u32 0, .int .u32 0]), 3, 16) := by kernel_rfl

/-- a slice of the call's own with the hops l -/
def HopsOwn (base : Nat) (w : World) (v : Value) (l : List Ls.Hop) : Prop := w.ownsRow base 60 3 v l.length (l.map hopE).flatten

theorem hopE_len (l : List Ls.Hop) : ∀ c ∈ l.map hopE, c.length = 3 := by
  intro c hc
  obtain ⟨h, _, rfl⟩ := List.mem_map.1 hc
  rfl

theorem HopsOwn.at {base : Nat} {w : World} {v : Value} {l : List Ls.Hop} (h : HopsOwn base w v l) : HopsAt w v l := SlV.of_own (hopE_len l) (by simpa [HopsOwn] using h)

def GrowPost (w : World) (e : Ending) (w' : World) : Prop := ∃ v, e = .returned v ∧ HopsOwn w.heap.size w' v [] ∧ Below w.heap.size w w'

set_option maxHeartbeats 800000 in
set_option maxRecDepth 100000 in
theorem grow_nil (n : Nat) (hn : n * 16 ≤ 140737488355328) (w : World) : Calls Tryz.prog 136 #[.slice none 0 0, .int .i64 n] w (GrowPost w) := by
  obtain ⟨i0, hi, hz0, hz1, hz2⟩ := info_parts Tryz.infoHop
  by_cases h0 : n = 0
  · subst h0
    go_enter Tryz.func136, Tryz.ntmps136
    go_wp2_with fail
    go_ret
    exact ⟨_, rfl, World.ownsRow_nil _ _ _ _, Below.refl _ _⟩
  · have h := fun ty => Lib.run_append_grow_zeros (P := Tryz.prog) w 48 3 ty 60 i0 _ .i64 .i64 Tryz.underlying48 Tryz.underlying3 hi hz0 none 0 0 [] (run_firstCells_none w.drew i0.size 0 0 0) n (by omega) (by omega) (by omega) (by omega) (by rw [hz2]; omega) (by rw [hz2, Nat.zero_add]; exact growslice_fits (by omega) (by omega))
    rw [Nat.zero_add] at h
    have hGn : n ≤ grownCap w n 0 60 := grownCap_ge w _ _ _
    have hG : grownCap w n 0 60 ≤ maxLen := grownCap_le_maxLen w n 0 60 (by unfold maxLen; omega)
    generalize grownCap w n 0 60 = G at h hGn hG
    have h1 : ¬ ((n : Int) < 0) := by omega
    have h4 : (n : Int) > 0 := by omega
    have hG2 : G ≤ 9223372036854775807 := by unfold maxLen at hG; omega
    have PO0 : GrowPost w (.returned (.slice (some ⟨w.heap.size, 0, none⟩) 0 G)) (w.drew.alloc (.cells (([] : List Value).toArray ++ Builtin.zeroCells (Value.agg #[Value.int .i64 0, Value.int .u32 0, Value.int .u32 0]).cells n ++ Builtin.zeroCells (Value.agg #[Value.int .i64 0, Value.int .u32 0, Value.int .u32 0]).cells (G - n)) 60)) :=
      ⟨_, rfl, World.ownsRow_made w.drew _ G (Nat.le_refl _) hG (by simp [size_zeroCells, Value.cells]; omega), ((Below.refl _ _).drew).alloc (Nat.le_refl _) _⟩
    have PO := Lib.hid PO0
    clear PO0
    generalize (([] : List Value).toArray ++ Builtin.zeroCells (Value.agg #[Value.int .i64 0, Value.int .u32 0, Value.int .u32 0]).cells n ++ Builtin.zeroCells (Value.agg #[Value.int .i64 0, Value.int .u32 0, Value.int .u32 0]).cells (G - n)) = C at h PO
    have HH := Lib.hid h
    clear h hn hG hi hz0 hz1 hz2 i0 h0
    go_enter Tryz.func136, Tryz.ntmps136
    go_wp2_with (at_builtin; refine Lib.wpList_append_run _ rfl _ _ _ _ rfl _ _ rfl rfl _ _ (HH.out _) ?_)
    go_ret
    exact PO.out

end Go.Proofs.YtogdconliofblaaGreat

namespace Go.Proofs.YtogdconliofblaaGreat
open Go.RowKit

theorem hopE_one (l : List Ls.Hop) : ∀ c ∈ l.map hopE, ∀ u ∈ c, u.oneCell' = true := by
  intro c hc u hu
  obtain ⟨h, _, rfl⟩ := List.mem_map.1 hc
  simp [hopE] at hu
  rcases hu with rfl | rfl | rfl <;> rfl

/-- a row of one's own grows behind another one's call -/
theorem HopsOwn.below {base : Nat} {w w' : World} {v : Value} {l : List Ls.Hop} (h : HopsOwn base w v l) (hb : Below w.heap.size w w') : HopsOwn base w' v l :=
  World.ownsRow.kept (row := none) h ⟨hb.os, hb.tape, hb.output, hb.size, fun k hk _ => hb.block k hk⟩ (by cases v.ownBlock <;> simp)

/-- behind an append to a row of the call's own -/
theorem Below.owned {B : Nat} {w w1 w2 : World} {e : TypeId} {k n : Nat} {v : Value} {xs : List Value} (h : Below B w w1) (hB : B ≤ w1.heap.size) (ho : w1.ownsRow B e k v n xs) (hg : w1.grownBy w2 v.ownBlock) : Below B w w2 :=
  h.grown hg hB fun j hj => (ho.lt j hj).1

def CatPost (w : World) (l : List Ls.Hop) (e : Ending) (w' : World) : Prop := ∃ v, e = .returned v ∧ HopsOwn w.heap.size w' v l ∧ Below w.heap.size w w'

/-- between the two appends -/
structure CatMid (w : World) (la lb : List Ls.Hop) (blk : Nat) (vb : Value) (wr : World) (s : Value) : Prop where
  own : HopsOwn w.heap.size wr s la
  bel : Below w.heap.size w wr
  c1 : wr.cell? ⟨blk, 1, none⟩ = some vb
  hb : HopsAt wr vb lb
structure CatEnd (w : World) (l : List Ls.Hop) (wr : World) (s : Value) : Prop where
  own : HopsOwn w.heap.size wr s l
  bel : Below w.heap.size w wr

theorem CatMid.mk1 {w w1 w2 : World} {la lb : List Ls.Hop} {blk : Nat} {v v' vb : Value} (B : Below w.heap.size w w1) (O : HopsOwn w.heap.size w1 v []) (O2 : w2.ownsRow w.heap.size 60 3 v' (0 + (la.map hopE).length) ([] ++ (la.map hopE).flatten)) (G : w1.grownBy w2 v.ownBlock)
    (c : w.cell? ⟨blk, 1, none⟩ = some vb) (hb : HopsAt w vb lb) : CatMid w la lb blk vb w2 v' := by
  have BB := Below.owned B B.size O G
  exact ⟨by rw [List.length_map, Nat.zero_add, List.nil_append] at O2; exact O2, BB, bcell BB c, hb.below BB⟩
theorem CatMid.mk2 {w w1 w2 : World} {la lb : List Ls.Hop} {blk : Nat} {v v' vb : Value} (M : CatMid w la lb blk vb w1 v) (O2 : w2.ownsRow w.heap.size 60 3 v' (la.length + (lb.map hopE).length) ((la.map hopE).flatten ++ (lb.map hopE).flatten)) (G : w1.grownBy w2 v.ownBlock) : CatEnd w (la ++ lb) w2 v' :=
  ⟨by rw [List.length_map] at O2; unfold HopsOwn; rw [List.length_append, List.map_append, List.flatten_append]; exact O2, Below.owned M.bel M.bel.size M.own G⟩

set_option maxHeartbeats 1600000 in
set_option maxRecDepth 100000 in
theorem concat2 (w : World) (va vb : Value) (la lb : List Ls.Hop) (ha : HopsAt w va la) (hb : HopsAt w vb lb) (blk cap : Nat) (c0 : w.cell? ⟨blk, 0, none⟩ = some va) (c1 : w.cell? ⟨blk, 1, none⟩ = some vb)
    (hn : (la.length + lb.length) * 16 ≤ 140737488355328) :
    Calls Tryz.prog 93 #[.slice (some ⟨blk, 0, none⟩) 2 cap] w (CatPost w (la ++ lb)) := by
  obtain ⟨i0, hi, hz0, hz1, hz2⟩ := info_parts Tryz.infoHop
  have HI := Lib.hid hi
  have HZ0 := Lib.hid hz0
  have HZ1 := Lib.hid hz1
  have HZ2 := Lib.hid hz2
  clear hi hz0 hz1 hz2
  have HA := Lib.hid ha
  have HB := Lib.hid hb
  obtain ⟨aa, ca, ea, -⟩ := ha.get
  obtain ⟨ab, cb, eb, -⟩ := hb.get
  have HN := Lib.hid hn
  have hla : la.length ≤ 8796093022208 := by omega
  have hlb : lb.length ≤ 8796093022208 := by omega
  subst ea eb
  clear ha hb hn
  go_enter Tryz.func93, Tryz.ntmps93
  go_wp2_with fail
  go_loop [3, 11] (fun s i => (i = .int .i64 0 ∧ s = .int .i64 0) ∨ (i = .int .i64 1 ∧ s = .int .i64 la.length) ∨ (i = .int .i64 2 ∧ s = .int .i64 ((la.length + lb.length : Nat) : Int))) (fun _ i => 2 - (intOf i).toNat)
  case atStart => exact .inl ⟨rfl, rfl⟩
  case round =>
    rcases hrel with ⟨rfl, rfl⟩ | ⟨rfl, rfl⟩ | ⟨rfl, rfl⟩
    · go_wp2_with fail
      go_round
      case rel => exact .inr (.inl ⟨rfl, rfl⟩)
      case measure => simp [intOf]
    · go_wp2_with fail
      go_round
      case rel => exact .inr (.inr ⟨rfl, by go_num⟩)
      case measure => simp [intOf]
    · go_wp2_with fail
      refine (grow_nil (la.length + lb.length) HN.out w).mono ?_
      rintro e w1 ⟨v, rfl, O, B⟩
      have C0 := Lib.hid (bcell B c0)
      have CW := Lib.hid c1
      have HBW := Lib.hid HB.out
      have HA1 := Lib.hid (HA.out.below B)
      have O0 := Lib.hid O
      have B0 := Lib.hid B
      clear c0 c1 HA HB O B
      go_wp2_with fail
      go_loopw [6, 27] (fun s i wr => (i = .int .i64 0 ∧ wr = w1 ∧ s = v) ∨ (i = .int .i64 1 ∧ CatMid w la lb blk (.slice ab lb.length cb) wr s) ∨ (i = .int .i64 2 ∧ CatEnd w (la ++ lb) wr s)) (fun _ i _ => 2 - (intOf i).toNat)
      case atStart => exact .inl ⟨rfl, rfl, rfl⟩
      case round =>
        rcases hrel with ⟨rfl, rfl, rfl⟩ | ⟨rfl, M⟩ | ⟨rfl, M⟩
        · have c0 := C0.out
          have k1 : 0 + (la.map hopE).length ≤ maxLen := by rw [List.length_map]; unfold maxLen; omega
          have k2 : (0 + (la.map hopE).length) * 16 ≤ 140737488355328 := by rw [List.length_map]; have := HN.out; omega
          have K1 := Lib.hid k1
          have K2 := Lib.hid k2
          clear k1 k2
          go_wp2_with (at_builtin; refine wpList_append_sl rfl _ _ _ rfl w.heap.size 60 i0 _ 3 16 Tryz.underlying48 HI.out HZ0.out HZ1.out HZ2.out rfl (by decide) _ 0 [] rfl O0.out _ (la.map hopE) rfl HA1.out (hopE_len la) (hopE_one la) K1.out K2.out B0.out.size ?_; intro v' w2 O2 G2; have M2 := Lib.hid (CatMid.mk1 (lb := lb) B0.out O0.out O2 G2 CW.out HBW.out); clear O2 G2)
          go_roundw
          case rel => exact .inr (.inl ⟨rfl, M2.out⟩)
          case measure => simp [intOf]
        · have c1 := M.c1
          have k1 : la.length + (lb.map hopE).length ≤ maxLen := by rw [List.length_map]; unfold maxLen; omega
          have k2 : (la.length + (lb.map hopE).length) * 16 ≤ 140737488355328 := by rw [List.length_map]; exact HN.out
          have K1 := Lib.hid k1
          have K2 := Lib.hid k2
          have MM := Lib.hid M
          clear k1 k2 M
          go_wp2_with (at_builtin; refine wpList_append_sl rfl _ _ _ rfl w.heap.size 60 i0 _ 3 16 Tryz.underlying48 HI.out HZ0.out HZ1.out HZ2.out rfl (by decide) _ la.length _ rfl MM.out.own _ (lb.map hopE) rfl MM.out.hb (hopE_len lb) (hopE_one lb) K1.out K2.out MM.out.bel.size ?_; intro v' w2 O2 G2; have M2 := Lib.hid (MM.out.mk2 O2 G2); clear O2 G2)
          go_roundw
          case rel => exact .inr (.inr ⟨rfl, M2.out⟩)
          case measure => simp [intOf]
        · go_wp2_with fail
          go_ret
          exact ⟨_, rfl, M.own, M.bel⟩

end Go.Proofs.YtogdconliofblaaGreat
