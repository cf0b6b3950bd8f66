/-
  inter.Choose$1: the comparison of two routes.
-/
/-
  slices.Grow of nil, slices.Concat of two, at routes.
-/
/-
  slices.SortStableFunc at routes, by inter.Choose$1.
-/
/-
  Routes put out one after the other, and the hops of the last one set anew.
-/
import Derived.Test.YtogdconliofblaaGreatChq
import Derived.Test.YtogdconliofblaaGreatSam
import Derived.Test.YtogdconliofblaaGreatSrr
import Derived.Test.YtogdconliofblaaGreatSwx
import Derived.Test.YtogdconliofblaaGreatApo
import Derived.Deep.RegionHeld3
import Derived.Lib.AppendZerosOnto
import Derived.Laws.AppendOwn
import Derived.OwnWalk
namespace Go.Proofs.YtogdconliofblaaGreat
open Go.RowKit

set_option maxHeartbeats 4000000 in
set_option maxRecDepth 100000 in
theorem choose1_calls (a b : Rt) (w : World) : Calls Tryz.prog 56 #[.agg (rtE a).toArray, .agg (rtE b).toArray] w fun e w' => e = .returned (.int .i64 (ckC a.ck b.ck)) ∧ Gr w w' := by
  obtain ⟨⟨a1, a2⟩, a3, a4, a5, a6, a7, a8, ha, hn, hc⟩ := a
  obtain ⟨⟨b1, b2⟩, b3, b4, b5, b6, b7, b8, ia, iN, ic⟩ := b
  have RO := Lib.hid (fun W => rorder_calls ⟨⟨a1, a2⟩, a3, a4, a5, a6, a7, a8, ha, hn, hc⟩ ⟨⟨b1, b2⟩, b3, b4, b5, b6, b7, b8, ia, iN, ic⟩ W)
  unfold ckC Rt.ck
  simp only
  simp only [rtE] at RO ⊢
  generalize pfxCmp ⟨a1, a2⟩ ⟨b1, b2⟩ = x1 at RO ⊢
  generalize hx2 : cmpI a3 b3 = x2
  generalize hx3 : cmpI a5 b5 = x3
  have X2 := Lib.hid hx2
  have X3 := Lib.hid hx3
  clear hx2 hx3
  obtain ⟨WA, hWA⟩ : ∃ WA, (w.alloc (.cells #[.int .u32 a1, .int .i64 a2, .int .i64 a3, .int .u32 a4, .int .i64 a5, .bool a6, .int .i64 a7, .int .i64 a8, .slice ha hn hc] 57)).alloc (.cells #[.int .u32 b1, .int .i64 b2, .int .i64 b3, .int .u32 b4, .int .i64 b5, .bool b6, .int .i64 b7, .int .i64 b8, .slice ia iN ic] 57) = WA := ⟨_, rfl⟩
  have GA : Gr w WA := by rw [← hWA]; exact ((Gr.refl _).alloc _).alloc _
  have bA : WA.heap[w.heap.size]? = some (.cells #[.int .u32 a1, .int .i64 a2, .int .i64 a3, .int .u32 a4, .int .i64 a5, .bool a6, .int .i64 a7, .int .i64 a8, .slice ha hn hc] 57 (0, 0)) := by
    rw [← hWA, heap_alloc_old _ _ (by simp)]; exact alloc_new w _
  have bB : WA.heap[w.heap.size + 1]? = some (.cells #[.int .u32 b1, .int .i64 b2, .int .i64 b3, .int .u32 b4, .int .i64 b5, .bool b6, .int .i64 b7, .int .i64 b8, .slice ia iN ic] 57 (0, 0)) := by
    rw [← hWA]
    have := alloc_new (w.alloc (.cells #[.int .u32 a1, .int .i64 a2, .int .i64 a3, .int .u32 a4, .int .i64 a5, .bool a6, .int .i64 a7, .int .i64 a8, .slice ha hn hc] 57)) (.cells #[.int .u32 b1, .int .i64 b2, .int .i64 b3, .int .u32 b4, .int .i64 b5, .bool b6, .int .i64 b7, .int .i64 b8, .slice ia iN ic] 57)
    rwa [show (w.alloc (.cells #[.int .u32 a1, .int .i64 a2, .int .i64 a3, .int .u32 a4, .int .i64 a5, .bool a6, .int .i64 a7, .int .i64 a8, .slice ha hn hc] 57)).heap.size = w.heap.size + 1 from by simp] at this
  go_enter Tryz.func56, Tryz.ntmps56
  go_upto_region 1 with fail
  obtain ⟨⟨x0, x1', x2', x3', x4, x5, x6, x7, x8⟩, -⟩ := blk9 bA
  obtain ⟨⟨y0, y1, y2, y3, y4, y5, y6, y7, y8⟩, -⟩ := blk9 bB
  have HGA := Lib.hid GA
  clear bA bB hWA GA
  go_region_held3 (fun W' => W'.cell? ⟨w.heap.size, 0, none⟩ = some (.int .u32 a1) ∧ W'.cell? ⟨w.heap.size, 1, none⟩ = some (.int .i64 a2) ∧ W'.cell? ⟨w.heap.size, 2, none⟩ = some (.int .i64 a3) ∧ W'.cell? ⟨w.heap.size, 3, none⟩ = some (.int .u32 a4) ∧ W'.cell? ⟨w.heap.size, 4, none⟩ = some (.int .i64 a5) ∧ W'.cell? ⟨w.heap.size, 5, none⟩ = some (.bool a6) ∧ W'.cell? ⟨w.heap.size, 6, none⟩ = some (.int .i64 a7) ∧ W'.cell? ⟨w.heap.size, 7, none⟩ = some (.int .i64 a8) ∧ W'.cell? ⟨w.heap.size, 8, none⟩ = some (.slice ha hn hc) ∧ W'.cell? ⟨w.heap.size + 1, 0, none⟩ = some (.int .u32 b1) ∧ W'.cell? ⟨w.heap.size + 1, 1, none⟩ = some (.int .i64 b2) ∧ W'.cell? ⟨w.heap.size + 1, 2, none⟩ = some (.int .i64 b3) ∧ W'.cell? ⟨w.heap.size + 1, 3, none⟩ = some (.int .u32 b4) ∧ W'.cell? ⟨w.heap.size + 1, 4, none⟩ = some (.int .i64 b5) ∧ W'.cell? ⟨w.heap.size + 1, 5, none⟩ = some (.bool b6) ∧ W'.cell? ⟨w.heap.size + 1, 6, none⟩ = some (.int .i64 b7) ∧ W'.cell? ⟨w.heap.size + 1, 7, none⟩ = some (.int .i64 b8) ∧ W'.cell? ⟨w.heap.size + 1, 8, none⟩ = some (.slice ia iN ic)) (first | with_reducible exact ⟨x0, x1', x2', x3', x4, x5, x6, x7, x8, y0, y1, y2, y3, y4, y5, y6, y7, y8⟩ | with_reducible exact ⟨p0, p1, p2, p3, p4, p5, p6, p7, p8, q0, q1, q2, q3, q4, q5, q6, q7, q8⟩ | go_keep)
    (first
    | (go_at_call 51; refine (RO.out _).mono ?_; rintro e w' ⟨rfl, G⟩; have p0 := bcell G.b x0; have p1 := bcell G.b x1'; have p2 := bcell G.b x2'; have p3 := bcell G.b x3'; have p4 := bcell G.b x4; have p5 := bcell G.b x5; have p6 := bcell G.b x6; have p7 := bcell G.b x7; have p8 := bcell G.b x8; have q0 := bcell G.b y0; have q1 := bcell G.b y1; have q2 := bcell G.b y2; have q3 := bcell G.b y3; have q4 := bcell G.b y4; have q5 := bcell G.b y5; have q6 := bcell G.b y6; have q7 := bcell G.b y7; have q8 := bcell G.b y8)
    | (go_at_call 58; refine (cmp_int _ _ _).mono ?_; rintro e w' ⟨rfl, rfl⟩; first | rw [X2.out] | rw [X3.out])
    | (go_at_call 57; refine (or_int [x1, x2, x3] _ _ _ (by simp) ?_).mono ?_; (exact fun _ => ⟨_, 0, rfl, fun i hi => by match i, hi with | 0, _ => exact new_cell (by simp) rfl | 1, _ => exact new_cell (by simp) rfl | 2, _ => exact new_cell (by simp) rfl⟩); rintro e w' ⟨rfl, rfl⟩))
  all_goals
    go_wp2_with fail
    go_ret
    exact ⟨rfl, by repeat (first | with_reducible exact HGA.out.drew.trans G | with_reducible exact HGA.out.trans G | refine Gr.drew ?_ | refine Gr.alloc ?_ _ | refine Gr.drewN ?_ _)⟩

end Go.Proofs.YtogdconliofblaaGreat

namespace Go.Proofs.YtogdconliofblaaGreat
open Go.RowKit

/-- a slice with the routes l -/
def RtsAt (w : World) (v : Value) (l : List Rt) : Prop := SlV 9 w v (l.map rtE)
theorem RtsAt.below {w w' : World} {v : Value} {l : List Rt} (h : RtsAt w v l) (hb : Below w.heap.size w w') : RtsAt w' v l := SlV.below h hb
theorem RtsAt.get {w : World} {v : Value} {l : List Rt} (h : RtsAt w v l) : ∃ a cap, v = .slice a l.length cap ∧ l.length ≤ cap ∧ cap ≤ maxLen := by
  obtain ⟨a, cap, h0, h1, h2, hn, h3⟩ := h
  simp only [List.length_map] at h0 h1 h3
  exact ⟨a, cap, h0, h1, h2⟩
theorem RtsOwn.at {base : Nat} {w : World} {v : Value} {l : List Rt} (h : RtsOwn base w v l) : RtsAt w v l := SlV.of_own (rtE_len l) (by simpa [RtsOwn] using h)

def GrowPostR (w : World) (e : Ending) (w' : World) : Prop := ∃ v, e = .returned v ∧ RtsOwn w.heap.size w' v [] ∧ Below w.heap.size w w'

set_option maxHeartbeats 800000 in
set_option maxRecDepth 100000 in
theorem grow_nil_rt (n : Nat) (hn : n * 88 ≤ 140737488355328) (w : World) : Calls Tryz.prog 90 #[.slice none 0 0, .int .i64 n] w (GrowPostR w) := by
  obtain ⟨i0, hi, hz0, hz1, hz2⟩ := info_parts Tryz.infoRt
  by_cases h0 : n = 0
  · subst h0
    go_enter Tryz.func90, Tryz.ntmps90
    go_wp2_with fail
    go_ret
    exact ⟨_, rfl, World.ownsRow_nil _ _ _ _, Below.refl _ _⟩
  · have h := fun ty => Lib.run_append_grow_zeros (P := Tryz.prog) w 27 3 ty 57 i0 _ .i64 .i64 Tryz.underlying27 Tryz.underlying3 hi hz0 none 0 0 [] (run_firstCells_none w.drew i0.size 0 0 0) n (by omega) (by omega) (by omega) (by omega) (by rw [hz2]; omega) (by rw [hz2, Nat.zero_add]; exact growslice_fits (by omega) (by omega))
    rw [Nat.zero_add] at h
    have hGn : n ≤ grownCap w n 0 57 := grownCap_ge w _ _ _
    have hG : grownCap w n 0 57 ≤ maxLen := grownCap_le_maxLen w n 0 57 (by unfold maxLen; omega)
    generalize grownCap w n 0 57 = G at h hGn hG
    have h1 : ¬ ((n : Int) < 0) := by omega
    have h4 : (n : Int) > 0 := by omega
    have hG2 : G ≤ 9223372036854775807 := by unfold maxLen at hG; omega
    have PO0 : GrowPostR w (.returned (.slice (some ⟨w.heap.size, 0, none⟩) 0 G)) (w.drew.alloc (.cells (([] : List Value).toArray ++ Builtin.zeroCells (Value.agg #[.int .u32 0, .int .i64 0, .int .i64 0, .int .u32 0, .int .i64 0, .bool false, .int .i64 0, .int .i64 0, .slice none 0 0]).cells n ++ Builtin.zeroCells (Value.agg #[.int .u32 0, .int .i64 0, .int .i64 0, .int .u32 0, .int .i64 0, .bool false, .int .i64 0, .int .i64 0, .slice none 0 0]).cells (G - n)) 57)) :=
      ⟨_, rfl, World.ownsRow_made w.drew _ G (Nat.le_refl _) hG (by simp [size_zeroCells, Value.cells]; omega), ((Below.refl _ _).drew).alloc (Nat.le_refl _) _⟩
    have PO := Lib.hid PO0
    clear PO0
    generalize (([] : List Value).toArray ++ Builtin.zeroCells (Value.agg #[.int .u32 0, .int .i64 0, .int .i64 0, .int .u32 0, .int .i64 0, .bool false, .int .i64 0, .int .i64 0, .slice none 0 0]).cells n ++ Builtin.zeroCells (Value.agg #[.int .u32 0, .int .i64 0, .int .i64 0, .int .u32 0, .int .i64 0, .bool false, .int .i64 0, .int .i64 0, .slice none 0 0]).cells (G - n)) = C at h PO
    have HH := Lib.hid h
    clear h hn hG hi hz0 hz1 hz2 i0 h0
    go_enter Tryz.func90, Tryz.ntmps90
    go_wp2_with (at_builtin; refine Lib.wpList_append_run _ rfl _ _ _ _ rfl _ _ rfl rfl _ _ (HH.out _) ?_)
    go_ret
    exact PO.out

end Go.Proofs.YtogdconliofblaaGreat

namespace Go.Proofs.YtogdconliofblaaGreat
open Go.RowKit

theorem rtE_ones (l : List Rt) : ∀ c ∈ l.map rtE, ∀ u ∈ c, u.oneCell' = true := by
  intro c hc u hu
  obtain ⟨h, _, rfl⟩ := List.mem_map.1 hc
  exact rtE_one h u hu

/-- a row of one's own grows behind another one's call -/
theorem RtsOwn.below {base : Nat} {w w' : World} {v : Value} {l : List Rt} (h : RtsOwn base w v l) (hb : Below w.heap.size w w') : RtsOwn base w' v l :=
  World.ownsRow.kept (row := none) h ⟨hb.os, hb.tape, hb.output, hb.size, fun k hk _ => hb.block k hk⟩ (by cases v.ownBlock <;> simp)

def CatPostR (w : World) (l : List Rt) (e : Ending) (w' : World) : Prop := ∃ v, e = .returned v ∧ RtsOwn w.heap.size w' v l ∧ Below w.heap.size w w'

/-- between the two appends -/
structure CatMidR (w : World) (la lb : List Rt) (blk : Nat) (vb : Value) (wr : World) (s : Value) : Prop where
  own : RtsOwn w.heap.size wr s la
  bel : Below w.heap.size w wr
  c1 : wr.cell? ⟨blk, 1, none⟩ = some vb
  hb : RtsAt wr vb lb
structure CatEndR (w : World) (l : List Rt) (wr : World) (s : Value) : Prop where
  own : RtsOwn w.heap.size wr s l
  bel : Below w.heap.size w wr

theorem CatMidR.mk1 {w w1 w2 : World} {la lb : List Rt} {blk : Nat} {v v' vb : Value} (B : Below w.heap.size w w1) (O : RtsOwn w.heap.size w1 v []) (O2 : w2.ownsRow w.heap.size 57 9 v' (0 + (la.map rtE).length) ([] ++ (la.map rtE).flatten)) (G : w1.grownBy w2 v.ownBlock)
    (c : w.cell? ⟨blk, 1, none⟩ = some vb) (hb : RtsAt w vb lb) : CatMidR w la lb blk vb w2 v' := by
  have BB := Below.owned B B.size O G
  exact ⟨by rw [List.length_map, Nat.zero_add, List.nil_append] at O2; exact O2, BB, bcell BB c, hb.below BB⟩
theorem CatMidR.mk2 {w w1 w2 : World} {la lb : List Rt} {blk : Nat} {v v' vb : Value} (M : CatMidR w la lb blk vb w1 v) (O2 : w2.ownsRow w.heap.size 57 9 v' (la.length + (lb.map rtE).length) ((la.map rtE).flatten ++ (lb.map rtE).flatten)) (G : w1.grownBy w2 v.ownBlock) : CatEndR w (la ++ lb) w2 v' :=
  ⟨by rw [List.length_map] at O2; unfold RtsOwn; rw [List.length_append, List.map_append, List.flatten_append]; exact O2, Below.owned M.bel M.bel.size M.own G⟩

set_option maxHeartbeats 1600000 in
set_option maxRecDepth 100000 in
theorem concat2_rt (w : World) (va vb : Value) (la lb : List Rt) (ha : RtsAt w va la) (hb : RtsAt w vb lb) (blk cap : Nat) (c0 : w.cell? ⟨blk, 0, none⟩ = some va) (c1 : w.cell? ⟨blk, 1, none⟩ = some vb)
    (hn : (la.length + lb.length) * 88 ≤ 140737488355328) :
    Calls Tryz.prog 54 #[.slice (some ⟨blk, 0, none⟩) 2 cap] w (CatPostR w (la ++ lb)) := by
  obtain ⟨i0, hi, hz0, hz1, hz2⟩ := info_parts Tryz.infoRt
  have HI := Lib.hid hi
  have HZ0 := Lib.hid hz0
  have HZ1 := Lib.hid hz1
  have HZ2 := Lib.hid hz2
  clear hi hz0 hz1 hz2
  have HA := Lib.hid ha
  have HB := Lib.hid hb
  obtain ⟨aa, ca, ea, -⟩ := ha.get
  obtain ⟨ab, cb, eb, -⟩ := hb.get
  have HN := Lib.hid hn
  have hla : la.length ≤ 1599289640401 := by omega
  have hlb : lb.length ≤ 1599289640401 := by omega
  subst ea eb
  clear ha hb hn
  go_enter Tryz.func54, Tryz.ntmps54
  go_wp2_with fail
  go_loop [3, 11] (fun s i => (i = .int .i64 0 ∧ s = .int .i64 0) ∨ (i = .int .i64 1 ∧ s = .int .i64 la.length) ∨ (i = .int .i64 2 ∧ s = .int .i64 ((la.length + lb.length : Nat) : Int))) (fun _ i => 2 - (intOf i).toNat)
  case atStart => exact .inl ⟨rfl, rfl⟩
  case round =>
    rcases hrel with ⟨rfl, rfl⟩ | ⟨rfl, rfl⟩ | ⟨rfl, rfl⟩
    · go_wp2_with fail
      go_round
      case rel => exact .inr (.inl ⟨rfl, rfl⟩)
      case measure => simp [intOf]
    · go_wp2_with fail
      go_round
      case rel => exact .inr (.inr ⟨rfl, by go_num⟩)
      case measure => simp [intOf]
    · go_wp2_with fail
      refine (grow_nil_rt (la.length + lb.length) HN.out w).mono ?_
      rintro e w1 ⟨v, rfl, O, B⟩
      have C0 := Lib.hid (bcell B c0)
      have CW := Lib.hid c1
      have HBW := Lib.hid HB.out
      have HA1 := Lib.hid (HA.out.below B)
      have O0 := Lib.hid O
      have B0 := Lib.hid B
      clear c0 c1 HA HB O B
      go_wp2_with fail
      go_loopw [6, 27] (fun s i wr => (i = .int .i64 0 ∧ wr = w1 ∧ s = v) ∨ (i = .int .i64 1 ∧ CatMidR w la lb blk (.slice ab lb.length cb) wr s) ∨ (i = .int .i64 2 ∧ CatEndR w (la ++ lb) wr s)) (fun _ i _ => 2 - (intOf i).toNat)
      case atStart => exact .inl ⟨rfl, rfl, rfl⟩
      case round =>
        rcases hrel with ⟨rfl, rfl, rfl⟩ | ⟨rfl, M⟩ | ⟨rfl, M⟩
        · have c0 := C0.out
          have k1 : 0 + (la.map rtE).length ≤ maxLen := by rw [List.length_map]; unfold maxLen; omega
          have k2 : (0 + (la.map rtE).length) * 88 ≤ 140737488355328 := by rw [List.length_map]; have := HN.out; omega
          have K1 := Lib.hid k1
          have K2 := Lib.hid k2
          clear k1 k2
          go_wp2_with (at_builtin; refine wpList_append_sl rfl _ _ _ rfl w.heap.size 57 i0 _ 9 88 Tryz.underlying27 HI.out HZ0.out HZ1.out HZ2.out rfl (by decide) _ 0 [] rfl O0.out _ (la.map rtE) rfl HA1.out (rtE_len la) (rtE_ones la) K1.out K2.out B0.out.size ?_; intro v' w2 O2 G2; have M2 := Lib.hid (CatMidR.mk1 (lb := lb) B0.out O0.out O2 G2 CW.out HBW.out); clear O2 G2)
          go_roundw
          case rel => exact .inr (.inl ⟨rfl, M2.out⟩)
          case measure => simp [intOf]
        · have c1 := M.c1
          have k1 : la.length + (lb.map rtE).length ≤ maxLen := by rw [List.length_map]; unfold maxLen; omega
          have k2 : (la.length + (lb.map rtE).length) * 88 ≤ 140737488355328 := by rw [List.length_map]; exact HN.out
          have K1 := Lib.hid k1
          have K2 := Lib.hid k2
          have MM := Lib.hid M
          clear k1 k2 M
          go_wp2_with (at_builtin; refine wpList_append_sl rfl _ _ _ rfl w.heap.size 57 i0 _ 9 88 Tryz.underlying27 HI.out HZ0.out HZ1.out HZ2.out rfl (by decide) _ la.length _ rfl MM.out.own _ (lb.map rtE) rfl MM.out.hb (rtE_len lb) (rtE_ones lb) K1.out K2.out MM.out.bel.size ?_; intro v' w2 O2 G2; have M2 := Lib.hid (MM.out.mk2 O2 G2); clear O2 G2)
          go_roundw
          case rel => exact .inr (.inr ⟨rfl, M2.out⟩)
          case measure => simp [intOf]
        · go_wp2_with fail
          go_ret
          exact ⟨_, rfl, M.own, M.bel⟩

end Go.Proofs.YtogdconliofblaaGreat

namespace Go.Proofs.YtogdconliofblaaGreat
open Go.RowKit Go.Shelf Go.Lib Go.Sort

set_option maxHeartbeats 2000000 in
set_option maxRecDepth 100000 in
theorem stable_none_rt (p : Option Addr) (cap : Nat) (fv : Value) (w : World) :
    Calls Tryz.prog 91 #[.slice p 0 cap, .int .i64 0, fv] w fun e w' => e = .returned (.tuple #[]) ∧ w = w' := by
  go_enter Tryz.func91, Tryz.ntmps91
  go_wp2_with fail
  refine wp_loop_rounds 1 ?_
  rw [rounds_succ]
  go_wp2_with fail
  refine (ins_none_rt p cap fv w).mono ?_
  rintro e w' ⟨rfl, rfl⟩
  go_wp2_with fail
  refine wp_loop_rounds 1 ?_
  rw [rounds_succ]
  go_wp2_with fail
  go_end0
  exact ⟨rfl, rfl⟩

set_option maxHeartbeats 2000000 in
theorem sortst_of {n cap : Nat} {p : Option Addr} {fv : Value} {w : World} {Q : Ending → World → Prop} (h : Calls Tryz.prog 91 #[.slice p n cap, .int .i64 n, fv] w fun e w' => e = .returned (.tuple #[]) ∧ Q e w') :
    Calls Tryz.prog 55 #[.slice p n cap, fv] w fun e w' => e = .returned (.tuple #[]) ∧ Q e w' := by
  go_enter Tryz.func55, Tryz.ntmps55
  go_wp2_with fail
  refine h.mono ?_
  rintro e w' ⟨rfl, hq⟩
  have HQ := Lib.hid hq
  clear hq
  go_wp2_with fail
  go_end0
  exact ⟨rfl, HQ.out⟩

def rAt (L : List Rt) (i : Nat) : Rt := L.getD i default
theorem rAt_range (L : List Rt) : (List.range L.length).map (fun i => rtE (rAt L i)) = L.map rtE := by
  apply List.ext_getElem
  · simp
  · intro i h1 h2
    have h : i < L.length := by simpa using h1
    simp [rAt, List.getD_eq_getElem?_getD, List.getElem?_eq_getElem h]

def chCf (L : List Rt) (i j : Nat) : Int := ckC (rAt L i).ck (rAt L j).ck
theorem chCf_lt (L : List Rt) : ltOf (chCf L) = fun i j => ckLt (rAt L i).ck (rAt L j).ck := by
  funext i j; exact ckC_lt _ _
theorem chCf_swo (L : List Rt) : SWO (ltOf (chCf L)) := by rw [chCf_lt]; exact swo_lin ckLin fun i => (rAt L i).ck

/-- the order of the places -/
def PlB (L : List Rt) (i j : Nat) : Prop := StL (fun a b => ckLt (rAt L a).ck (rAt L b).ck) id i j

def StbRPost (base : Nat) (w : World) (v : Value) (L : List Rt) (e : Ending) (w' : World) : Prop :=
  e = .returned (.tuple #[]) ∧ ∃ s : List Nat, s.length = L.length ∧ s.Pairwise (PlB L) ∧ (∀ i, i ∈ s ↔ i < L.length) ∧ RtsOwn base w' v (s.map (rAt L)) ∧ Below base w w'

theorem stable_rts (base : Nat) (w : World) (v : Value) (L : List Rt) (h : RtsOwn base w v L) (hl : L.length < 1152921504606846976) :
    Calls Tryz.prog 55 #[v, .func (.func 56) #[] #[]] w (StbRPost base w v L) := by
  rcases own_cases h with ⟨rfl, h0⟩ | ⟨g, cap, cur, rfl, hb, hlt, _⟩
  · have hn : L = [] := List.length_eq_zero_iff.1 h0
    subst hn
    refine (sortst_of (n := 0) (Q := fun _ w' => w = w') (stable_none_rt none 0 (.func (.func 56) #[] #[]) w)).mono ?_
    rintro e w' ⟨rfl, rfl⟩
    exact ⟨rfl, [], rfl, List.Pairwise.nil, fun i => by simp, h, Below.refl _ _⟩
  · have eg : ∀ args w, (callFunc 56 args).run Tryz.prog w = .ok (.enter 56 args) w := enters_of Tryz.func56 (by kernel_rfl) rfl
    have h' : w.ownsRow base 57 9 (.slice (some ⟨g, 0, none⟩) (List.range L.length).length cap) (List.range L.length).length ((List.range L.length).map (fun i => rtE (rAt L i))).flatten := by
      rw [rAt_range, List.length_range]; exact h
    have hk : ∀ i : Nat, (rtE (rAt L i)).length = 9 := fun _ => rfl
    have hH := own_holds (enc := fun i => rtE (rAt L i)) (k := 9) hk h'
    have cl : CmpLays Tryz.prog 56 #[] (fun i => rtE (rAt L i)) 9 (chCf L) g 0 (List.range L.length).toArray.size w :=
      fun _ _ _ _ x y => (choose1_calls (rAt L x) (rAt L y) _).mono fun _ _ ⟨he, hg⟩ => ⟨he, hg.grow⟩
    have sz : (List.range L.length).toArray.size = L.length := by simp
    have at1 : ∀ t, t < L.length → (List.range L.length).toArray[t]! = t := fun t ht => by
      rw [getElem!_pos _ _ (by simpa using ht)]; simp
    have hcon := stable_calls (fun i => rtE (rAt L i)) (chCf L) (chCf_swo L) id 56 #[] eg g 0 cap L.length (List.range L.length).toArray w sz cl
      ⟨hk, fun x v hv => rtE_one _ v hv, hH, hlt⟩ hl (fun x y h1 h2 => by rw [at1 x (by omega), at1 y h2]; exact h1)
    refine (sortst_of (Q := fun _ w' => ∃ d' : Array Nat, d'.size = L.length ∧ SrtF (StL (ltOf (chCf L)) id) (fun t => d'[t]!) 0 L.length ∧ SameF (fun t => d'[t]!) (fun t => (List.range L.length).toArray[t]!) 0 L.length ∧ SWK (fun i => rtE (rAt L i)) 9 w g 0 d' w') hcon).mono ?_
    rintro e w' ⟨rfl, d', hd', hs, hm, n, os, rfl⟩
    have hd2 : d'.size = (List.range L.length).length := by rw [hd']; simp
    obtain ⟨o1, o2⟩ := own_sorted (enc := fun i => rtE (rAt L i)) (k := 9) hk h' (m := n) (d' := d') (os := os) hd2
    have atd : ∀ t (ht : t < d'.toList.length), d'[t]! = d'.toList[t] := fun t ht => by rw [getElem!_pos _ _ (by simpa using ht)]; simp
    refine ⟨rfl, d'.toList, by simpa using hd', ?_, fun i => ?_, ?_, ?_⟩
    · rw [List.pairwise_iff_getElem]
      intro i j hi hj hij
      have := hs i j (Nat.zero_le _) hij (by simpa [hd'] using hj)
      simp only at this
      rw [atd i hi, atd j hj, chCf_lt] at this
      exact this
    · constructor
      · intro hi
        obtain ⟨t, ht, rfl⟩ := List.getElem_of_mem hi
        obtain ⟨u, u1, u2, u3⟩ := hm.mem t (Nat.zero_le _) (by simpa [hd'] using ht)
        rw [atd t ht, at1 u u2] at u3
        rw [u3]; exact u2
      · intro hi
        obtain ⟨u, u1, u2, u3⟩ := hm.bak i (Nat.zero_le _) hi
        have hu : u < d'.toList.length := by simpa [hd'] using u2
        rw [at1 i hi, atd u hu] at u3
        rw [u3]; exact List.getElem_mem hu
    · unfold RtsOwn
      have e4 : (d'.toList.map (rAt L)).length = L.length := by simpa using hd'
      rw [e4, List.map_map]
      rw [List.length_range] at o1
      exact o1
    · refine ⟨o2.os, o2.tape, o2.output, o2.size, fun i hi => o2.block i (by omega) (fun e => by cases e; omega)⟩

end Go.Proofs.YtogdconliofblaaGreat

namespace Go.Proofs.YtogdconliofblaaGreat
open Go.RowKit

structure OutR (W1 : World) (out : List RtH) (v : Value) (wr : World) : Prop where
  own : RtsOwn W1.heap.size wr v (out.map RtH.rt)
  hops : ∀ x ∈ out, HopsAt wr x.rt.hv x.hops
  sep : ∀ x ∈ out, ∀ b, x.rt.hv.ownBlock = some b → v.ownBlock ≠ some b ∧ b < wr.heap.size
  bel : Below W1.heap.size W1 wr
theorem OutR.nil (W1 : World) : OutR W1 [] (.slice none 0 0) W1 := ⟨World.ownsRow_nil _ _ _ _, (fun x hx => by cases hx), (fun x hx => by cases hx), Below.refl _ _⟩
theorem OutR.start (W1 : World) : OutR W1 [] (.slice (some ⟨W1.heap.size, 0, none⟩) 0 0) (W1.alloc (.cells #[] 57)) := by
  refine ⟨?_, (fun x hx => by cases hx), (fun x hx => by cases hx), (Below.refl _ _).alloc (Nat.le_refl _) _⟩
  have := World.ownsRow_made (size := 9) (e := 57) (base := W1.heap.size) W1 #[] 0 (by simp) (by unfold maxLen; omega) rfl
  simpa [RtsOwn] using this
theorem OutR.below {W1 : World} {out : List RtH} {v : Value} {wr W' : World} (R : OutR W1 out v wr) (hb : Below wr.heap.size wr W') : OutR W1 out v W' :=
  ⟨World.ownsRow.kept (row := none) R.own (grown_of_below hb none) (by cases v.ownBlock <;> simp), fun x hx => (R.hops x hx).below hb, fun x hx b h => ⟨(R.sep x hx b h).1, Nat.lt_of_lt_of_le (R.sep x hx b h).2 hb.size⟩, R.bel.trans (hb.mono R.bel.size)⟩
theorem OutR.push {W1 : World} {out : List RtH} {v v' : Value} {wr W w4 : World} (R : OutR W1 out v wr) (hb : Below wr.heap.size wr W)
    {x : RtH} (hh : HopsAt W x.rt.hv x.hops) (hf : ∀ b, x.rt.hv.ownBlock = some b → wr.heap.size ≤ b ∧ b < W.heap.size)
    (own' : w4.ownsRow W1.heap.size 57 9 v' ((out.map RtH.rt).length + 1) (((out.map RtH.rt).map rtE).flatten ++ rtE x.rt)) (hg4 : W.grownBy w4 v.ownBlock) (d : v'.ownBlock = v.ownBlock ∨ v'.ownBlock = some W.heap.size) : OutR W1 (out ++ [x]) v' w4 := by
  have R' := R.below hb
  have sepx : ∀ y ∈ out ++ [x], ∀ b, y.rt.hv.ownBlock = some b → v.ownBlock ≠ some b ∧ b < W.heap.size := by
    intro y hy b hb'
    rcases List.mem_append.1 hy with hy | hy
    · exact R'.sep y hy b hb'
    · rw [List.mem_singleton] at hy
      subst hy
      obtain ⟨h1, h2⟩ := hf b hb'
      refine ⟨fun e => ?_, h2⟩
      have := (World.ownsRow.lt R.own b e).2
      omega
  refine ⟨?_, fun y hy => ?_, fun y hy b hb' => ?_, R'.bel.grown hg4 R'.bel.size (fun j hj => (World.ownsRow.lt R'.own j hj).1)⟩
  · unfold RtsOwn
    rw [List.map_append, List.length_append, List.map_append, List.flatten_append]
    simpa using own'
  · have hy0 : HopsAt W y.rt.hv y.hops := by
      rcases List.mem_append.1 hy with h1 | h1
      · exact R'.hops y h1
      · rw [List.mem_singleton] at h1
        subst h1; exact hh
    exact SlV.kept hy0 hg4 fun b off n c e => (sepx y hy b (by rw [e]; rfl)).1
  · obtain ⟨h1, h2⟩ := sepx y hy b hb'
    refine ⟨?_, Nat.lt_of_lt_of_le h2 hg4.size⟩
    rcases d with d | d
    · rw [d]; exact h1
    · rw [d]; intro e; cases e; omega
theorem OutR.at {W1 : World} {out : List RtH} {v : Value} {wr : World} (R : OutR W1 out v wr) : RoutesAt wr v out := by
  refine ⟨?_, R.hops⟩
  have e : out.map (fun x => rtE x.rt) = (out.map RtH.rt).map rtE := by rw [List.map_map]; rfl
  rw [e]
  exact SlV.of_own (rtE_len _) (by simpa [RtsOwn] using R.own)

theorem set_last (L : List Rt) (z : Rt) (a : Option Addr) (n c : Nat) : (((L ++ [z]).map rtE).flatten).set (L.length * 9 + 8) (.slice a n c) = ((L ++ [{ z with ha := a, hn := n, hc := c }]).map rtE).flatten := by
  have hl : ((L.map rtE).flatten).length = L.length * 9 := by rw [flat_len _ (rtE_len L)]; simp
  rw [List.map_append, List.flatten_append, List.map_append, List.flatten_append, List.set_append_right _ _ (by omega), hl, Nat.add_sub_cancel_left]
  simp [rtE]

/-- where the last route lies -/
theorem OutR.last {W1 : World} {L : List RtH} {z : RtH} {v : Value} {wr : World} (R : OutR W1 (L ++ [z]) v wr) :
    ∃ g cap, v = .slice (some ⟨g, 0, none⟩) (L.length + 1) cap ∧ W1.heap.size ≤ g ∧ g < wr.heap.size ∧ RtCells wr g (L.length * 9) z.rt ∧ ∀ j, wr.frozen? ⟨g, j, none⟩ = false := by
  have A := R.at
  obtain ⟨a, cap, e, -, h⟩ := A.get
  obtain ⟨b, off, ea, hb, hc⟩ := h (by simp)
  rcases own_cases R.own with ⟨_, h0⟩ | ⟨g, cap', cur, e', h1, h2, h3, h4, h5, h6, h7⟩
  · simp at h0
  · rw [e] at e'
    subst ea
    simp only [List.length_append, List.length_singleton, Value.slice.injEq, Option.some.injEq, Addr.mk.injEq, and_true] at e'
    obtain ⟨⟨rfl, rfl⟩, -, rfl⟩ := e'
    refine ⟨b, cap, by rw [e]; simp, h1, hb, ?_, fun j => blk_free h3 j⟩
    have := hc L.length (by simp)
    rw [Nat.zero_add] at this
    simpa using this

/-- the last route's hops set anew -/
theorem OutR.set {W1 : World} {L : List RtH} {z : RtH} {g cap : Nat} {wr W : World} (R : OutR W1 (L ++ [z]) (.slice (some ⟨g, 0, none⟩) (L.length + 1) cap) wr) (hb : Below wr.heap.size wr W)
    {a : Option Addr} {n c : Nat} {m : List Ls.Hop} (hh : HopsAt W (.slice a n c) m) (hf : ∀ b, (Value.slice a n c).ownBlock = some b → wr.heap.size ≤ b ∧ b < W.heap.size) :
    OutR W1 (L ++ [⟨{ z.rt with ha := a, hn := n, hc := c }, m⟩]) (.slice (some ⟨g, 0, none⟩) (L.length + 1) cap) (W.setCell ⟨g, L.length * 9 + 8, none⟩ (.slice a n c)) := by
  have R' := R.below hb
  have hg := (World.ownsRow.lt R.own g rfl)
  have O := R'.own
  unfold RtsOwn at O
  rw [List.map_append, List.length_append, List.length_map, List.map_cons, List.map_nil, List.length_singleton] at O
  obtain ⟨S1, S2⟩ := World.ownsRow.stored O (L.length * 9 + 8) (.slice a n c)
  have se := set_last (L.map RtH.rt) z.rt a n c
  rw [List.length_map] at se
  rw [se] at S1
  have sepx : ∀ y ∈ L ++ [⟨{ z.rt with ha := a, hn := n, hc := c }, m⟩], ∀ b, y.rt.hv.ownBlock = some b → (Value.slice (some ⟨g, 0, none⟩) (L.length + 1) cap).ownBlock ≠ some b ∧ b < W.heap.size := by
    intro y hy b hb'
    rcases List.mem_append.1 hy with hy | hy
    · exact R'.sep y (List.mem_append_left _ hy) b hb'
    · rw [List.mem_singleton] at hy
      subst hy
      obtain ⟨h1, h2⟩ := hf b hb'
      refine ⟨fun e => ?_, h2⟩
      have := (World.ownsRow.lt R.own b e).2
      omega
  refine ⟨?_, fun y hy => ?_, fun y hy b hb' => ?_, R'.bel.grown S2 R'.bel.size (fun j hj => by cases hj; exact hg.1)⟩
  · unfold RtsOwn
    rw [List.map_append, List.length_append, List.length_map, List.map_cons, List.map_nil, List.length_singleton]
    exact S1
  · have hy0 : HopsAt W y.rt.hv y.hops := by
      rcases List.mem_append.1 hy with h1 | h1
      · exact R'.hops y (List.mem_append_left _ h1)
      · rw [List.mem_singleton] at h1
        subst h1; exact hh
    exact SlV.kept hy0 S2 fun b off n c e => (sepx y hy b (by rw [e]; rfl)).1
  · obtain ⟨h1, h2⟩ := sepx y hy b hb'
    exact ⟨h1, Nat.lt_of_lt_of_le h2 S2.size⟩

end Go.Proofs.YtogdconliofblaaGreat
