/-
  routingref30.add.
-/
/-
  routingref30.add walked.
-/
import Derived.Test.YtddageahmgaigaaGreatRtp
import Derived.Deep.DeepCutAuto
namespace Go.Proofs.YtddageahmgaigaaGreat
open Go.RowKit

/-- one round of add -/
def adS (s : Lnk × Bool × List Lnk) (y : Lnk) : Lnk × Bool × List Lnk :=
  if lnkCmp s.1 y = 0 then (bestL s.1 y, s.2.1, s.2.2)
  else if s.2.1 = false ∧ lnkCmp s.1 y < 0 then (s.1, true, s.2.2 ++ [s.1] ++ [y])
  else (s.1, s.2.1, s.2.2 ++ [y])
def adK (x : Lnk) (l : List Lnk) (k : Nat) : Lnk × Bool × List Lnk := (l.take k).foldl adS (x, false, [])
def adF (s : Lnk × Bool × List Lnk) : List Lnk := if s.2.1 = true then s.2.2 else s.2.2 ++ [s.1]
theorem adK_succ (x : Lnk) (l : List Lnk) {k : Nat} (c : k < l.length) : adK x l (k + 1) = adS (adK x l k) l[k] := by
  unfold adK
  rw [List.take_succ_eq_append_getElem c, List.foldl_append]; rfl
theorem ad_fold : ∀ (r : List Lnk) (x : Lnk) (d : Bool) (out : List Lnk), adF (r.foldl adS (x, d, out)) = out ++ addR x d r
  | [], x, d, out => by cases d <;> simp [adF, addR]
  | y :: r, x, d, out => by
    rw [List.foldl_cons]
    unfold addR
    by_cases h : lnkCmp x y = 0
    · rw [if_pos h, show adS (x, d, out) y = (bestL x y, d, out) from by unfold adS; rw [if_pos h]]
      exact ad_fold r _ _ _
    · rw [if_neg h]
      by_cases h2 : d = false ∧ lnkCmp x y < 0
      · rw [if_pos h2, show adS (x, d, out) y = (x, true, out ++ [x] ++ [y]) from by unfold adS; rw [if_neg h, if_pos h2], ad_fold r _ _ _]
        simp
      · rw [if_neg h2, show adS (x, d, out) y = (x, d, out ++ [y]) from by unfold adS; rw [if_neg h, if_neg h2], ad_fold r _ _ _]
        simp
theorem adK_all (x : Lnk) (l : List Lnk) : adF (adK x l l.length) = addR x false l := by
  unfold adK
  rw [List.take_length, ad_fold]; simp
theorem adS_len (s : Lnk × Bool × List Lnk) (y : Lnk) : (adS s y).2.2.length ≤ s.2.2.length + 2 := by
  unfold adS
  split
  · simp
  · split <;> simp
theorem adK_len (x : Lnk) (l : List Lnk) : ∀ k, k ≤ l.length → (adK x l k).2.2.length ≤ 2 * k
  | 0, _ => by simp [adK]
  | k + 1, h => by
    rw [adK_succ x l h]
    have h1 := adS_len (adK x l k) (l[k]'h)
    have h2 := adK_len x l k (Nat.le_of_succ_le h)
    omega

/-- k links are looked through -/
structure AdR (w : World) (s : Lnk × Bool × List Lnk) (v : Value) (wr : World) : Prop where
  box : wr.heap[w.heap.size]? = some (.cells (lnkE s.1).toArray 82 (0, 0))
  own : LnksOwn (w.heap.size + 1) wr v s.2.2
  bel : Below w.heap.size w wr
theorem AdR.set {w : World} {s : Lnk × Bool × List Lnk} {v : Value} {wr w' : World} (R : AdR w s v wr) (y : Lnk) (h : w'.heap[w.heap.size]? = some (.cells (lnkE y).toArray 82 (0, 0))) (g : wr.grownBy w' (some w.heap.size)) : AdR w (y, s.2.1, s.2.2) v w' :=
  ⟨h, World.ownsRow.kept R.own g (.inr (fun e => by have := (World.ownsRow.lt R.own _ e).1; omega)), R.bel.grown g R.bel.size (fun j hj => by cases hj; exact Nat.le_refl _)⟩
theorem AdR.grow {w : World} {s : Lnk × Bool × List Lnk} {v : Value} {wr w' : World} (R : AdR w s v wr) (g : Below wr.heap.size wr w') : AdR w s v w' :=
  ⟨(g.block _ (blk_lt R.box)).trans R.box, R.own.below g, R.bel.trans (g.mono R.bel.size)⟩
theorem AdR.push {w : World} {x : Lnk} {d : Bool} {out : List Lnk} {v v' : Value} {wr w3 w4 : World} (R : AdR w (x, d, out) v wr) (y : Lnk) (hb : Below wr.heap.size wr w3)
    (own' : w4.ownsRow (w.heap.size + 1) 82 4 v' (out.length + 1) ((out.map lnkE).flatten ++ lnkE y)) (hg4 : w3.grownBy w4 v.ownBlock) : AdR w (x, d, out ++ [y]) v' w4 := by
  have R3 := R.grow hb
  refine ⟨(hg4.block _ (blk_lt R3.box) (fun e => by have := (World.ownsRow.lt R3.own _ e.symm).1; omega)).trans R3.box, ?_, R3.bel.grown hg4 R3.bel.size (fun j hj => by have := (World.ownsRow.lt R3.own j hj).1; omega)⟩
  unfold LnksOwn
  rw [List.length_append, List.map_append, List.flatten_append]
  simpa using own'

def AdPost (w : World) (L : List Lnk) (e : Ending) (w' : World) : Prop := ∃ v, e = .returned v ∧ LnksAt w' v L ∧ Fr w.heap.size v ∧ Below w.heap.size w w'

end Go.Proofs.YtddageahmgaigaaGreat

namespace Go.Proofs.YtddageahmgaigaaGreat
open Go.RowKit

set_option maxHeartbeats 16000000 in
set_option maxRecDepth 100000 in
theorem radd_calls (w : World) (v : Value) (l : List Lnk) (h : LnksAt w v l) (hl : l.length ≤ 4194304) (x : Lnk) : Calls Tryz.prog 46 #[v, .agg (lnkE x).toArray] w (AdPost w (addR x false l)) := by
  obtain ⟨ti, hti, hz0, hz1, hz2⟩ := info_parts Tryz.infoLink
  have HI := Lib.hid hti
  have HZ0 := Lib.hid hz0
  have HZ1 := Lib.hid hz1
  have HZ2 := Lib.hid hz2
  obtain ⟨a0, c0, rfl, hc⟩ := h.get
  have HC := Lib.hid hc
  have mixed : Tryz.prog.follows .mixedOrders = true := by kernel_rfl
  clear h hti hz0 hz1 hz2 hc
  obtain ⟨W0, hW0⟩ : ∃ W0, w.alloc (.cells (lnkE x).toArray 82) = W0 := ⟨_, rfl⟩
  have b0 : W0.heap[w.heap.size]? = some (.cells (lnkE x).toArray 82 (0, 0)) := by rw [← hW0]; exact alloc_new _ _
  have s0 : W0.heap.size = w.heap.size + 1 := by rw [← hW0]; simp
  have B0 : Below w.heap.size w W0 := by rw [← hW0]; exact (Below.refl _ _).alloc (Nat.le_refl _) _
  obtain ⟨W1, hW1⟩ : ∃ W1, W0.alloc (.cells #[] 82) = W1 := ⟨_, rfl⟩
  have ST : Hid (AdR w (adK x l 0) (.slice (some ⟨W0.heap.size, 0, none⟩) 0 0) W1) := Lib.hid ⟨by rw [← hW1]; exact (alloc_get _ _ _ (blk_lt b0)).trans b0, by rw [← hW1]; exact World.ownsRow_made W0 #[] 0 (by omega) (by unfold maxLen; omega) rfl, by rw [← hW1]; exact B0.alloc B0.size _⟩
  have HW0 := Lib.hid hW0
  have HW1 := Lib.hid hW1
  clear hW0 hW1 b0 s0 B0
  go_enter Tryz.func46, Tryz.ntmps46
  go_upto_region 1 with fail
  rw [HW0.out]
  go_upto_region 2 with fail
  rw [HW1.out]
  go_wp2_with fail
  go_loopw [7, 5, 6, 8] (fun ix vo d _ wr => ∃ k : Nat, ix = .int .i64 k ∧ k ≤ l.length ∧ d = .bool (adK x l k).2.1 ∧ Hid (AdR w (adK x l k) vo wr)) (fun ix _ _ _ _ => l.length - (intOf ix).toNat)
  case atStart => exact ⟨0, rfl, Nat.zero_le _, rfl, ST⟩
  case round =>
    clear ST HW0 HW1
    obtain ⟨k, rfl, hk, rfl, R⟩ := hrel
    by_cases c : k < l.length
    · obtain ⟨b1, o1, rfl, hb1, hcc1⟩ := HC.out (by omega)
      have up : ∀ {o : Nat} {u : Value}, w.cell? ⟨b1, o, none⟩ = some u → wr.cell? ⟨b1, o, none⟩ = some u := fun {o u} hh => (World.cell?_of_block (w := w) (w' := wr) (a := ⟨b1, o, none⟩) (R.out.bel.block b1 hb1)).trans hh
      obtain ⟨d0, d1, d2, d3⟩ := hcc1 k c
      have b4 := up d0
      have b5 := up d1
      have b6 := up d2
      have b7 := up d3
      have ES0 := Lib.hid (adK_succ x l c)
      have LEN : Hid ((adK x l k).2.2.length ≤ 8388608) := Lib.hid (by have := adK_len x l k hk; omega)
      have KC := Lib.hid c
      have hl6 := hl
      have i0 : (0 : Int) ≤ (k : Int) := by omega
      have i1 : (k : Int) < (l.length : Int) := by omega
      have s3 : ((k : Int)).toNat = k := by omega
      have R4 := Lib.hid (hcc1 k c)
      have HB1 := Lib.hid hb1
      clear hcc1 up d0 d1 d2 d3
      generalize l[k] = y at *
      generalize adK x l k = s at *
      clear c
      obtain ⟨yk, yi, yd, yc⟩ := y
      obtain ⟨⟨xk, xi, xd, xc⟩, dn, out⟩ := s
      simp only at b4 b5 b6 b7 LEN
      have bx := R.out.box
      simp only [lnkE] at bx
      have b0 := blk_cell (i := 0) bx rfl
      have b1' := blk_cell (i := 1) bx rfl
      have b2 := blk_cell (i := 2) bx rfl
      have b3 := blk_cell (i := 3) bx rfl
      have LC := fun W => links_raw xk yk xi yi xd yd xc yc W
      obtain ⟨cv, hcv⟩ : ∃ cv, orI [cmpI xk yk, cmpI xi yi, cmpI xd yd] = cv := ⟨_, rfl⟩
      have HCV : Hid (lnkCmp ⟨xk, xi, xd, xc⟩ ⟨yk, yi, yd, yc⟩ = cv) := Lib.hid hcv
      simp only [hcv] at LC
      clear hcv
      have R0 := R
      clear bx R
      by_cases q : cv = 0
      · subst q
        by_cases lt : yc < xc
        · have gl : decide (yc < xc) = true := decide_eq_true lt
          have ES : Hid (adK x l (k + 1) = (⟨yk, yi, yd, yc⟩, dn, out)) := Lib.hid (by rw [ES0.out]; unfold adS; rw [if_pos HCV.out]; unfold bestL; rw [if_pos lt])
          clear ES0 HCV lt
          go_upto_region 6 with fail
          go_region_held3 (fun W' => W'.cell? ⟨w.heap.size, 0, none⟩ = some (.int .i64 xk) ∧ W'.cell? ⟨w.heap.size, 1, none⟩ = some (.int .u32 xi) ∧ W'.cell? ⟨w.heap.size, 2, none⟩ = some (.int .u32 xd) ∧ W'.cell? ⟨w.heap.size, 3, none⟩ = some (.int .i64 xc) ∧ W'.cell? ⟨b1, o1 + k * 4, none⟩ = some (.int .i64 yk) ∧ W'.cell? ⟨b1, o1 + k * 4 + 1, none⟩ = some (.int .u32 yi) ∧ W'.cell? ⟨b1, o1 + k * 4 + 2, none⟩ = some (.int .u32 yd) ∧ W'.cell? ⟨b1, o1 + k * 4 + 3, none⟩ = some (.int .i64 yc)) (first | with_reducible exact ⟨b0, b1', b2, b3, b4, b5, b6, b7⟩ | with_reducible exact ⟨p0, p1, p2, p3, p4, p5, p6, p7⟩ | go_keep)
            (first | (go_at_call 82; refine (LC _).mono ?_; rintro e w1 ⟨rfl, G1⟩; have p0 := bcell G1.b b0; have p1 := bcell G1.b b1'; have p2 := bcell G1.b b2; have p3 := bcell G1.b b3; have p4 := bcell G1.b b4; have p5 := bcell G1.b b5; have p6 := bcell G1.b b6; have p7 := bcell G1.b b7; have RB : Hid (Below wr.heap.size wr w1) := Lib.hid (by first | exact (Below.refl _ wr).drew.trans G1.b | exact G1.b); clear G1))
          go_wp2_with fail
          go_region_held3 (fun W' => W'.cell? ⟨w.heap.size, 0, none⟩ = some (.int .i64 xk) ∧ W'.cell? ⟨w.heap.size, 1, none⟩ = some (.int .u32 xi) ∧ W'.cell? ⟨w.heap.size, 2, none⟩ = some (.int .u32 xd) ∧ W'.cell? ⟨w.heap.size, 3, none⟩ = some (.int .i64 xc) ∧ W'.cell? ⟨b1, o1 + k * 4, none⟩ = some (.int .i64 yk) ∧ W'.cell? ⟨b1, o1 + k * 4 + 1, none⟩ = some (.int .u32 yi) ∧ W'.cell? ⟨b1, o1 + k * 4 + 2, none⟩ = some (.int .u32 yd) ∧ W'.cell? ⟨b1, o1 + k * 4 + 3, none⟩ = some (.int .i64 yc)) (first | with_reducible exact ⟨p0, p1, p2, p3, p4, p5, p6, p7⟩ | go_keep) (first | fail)
          all_goals
            have bx := (RB.out.block _ (blk_lt R0.out.box)).trans R0.out.box
            simp only [lnkE] at bx
            have f0 := blk_free bx 0
            have f1 := blk_free bx 1
            have f2 := blk_free bx 2
            have f3 := blk_free bx 3
            obtain ⟨w2, hw2⟩ : ∃ w2, (((w1.setCell ⟨w.heap.size, 0, none⟩ (.int .i64 yk)).setCell ⟨w.heap.size, 1, none⟩ (.int .u32 yi)).setCell ⟨w.heap.size, 2, none⟩ (.int .u32 yd)).setCell ⟨w.heap.size, 3, none⟩ (.int .i64 yc) = w2 := ⟨_, rfl⟩
            have bk : w2.heap[w.heap.size]? = some (.cells #[.int .i64 yk, .int .u32 yi, .int .u32 yd, .int .i64 yc] 82 (0, 0)) := by
              rw [← hw2]
              have h1 := blk_set (blk_set (blk_set (blk_set bx 0 (.int .i64 yk)) 1 (.int .u32 yi)) 2 (.int .u32 yd)) 3 (.int .i64 yc)
              simp only [List.setIfInBounds_toArray, List.set_cons_zero, List.set_cons_succ] at h1
              exact h1
            have gg : w1.grownBy w2 (some w.heap.size) := by
              rw [← hw2]
              exact grown_grown (grown_grown (grown_grown (grown_set w1 w.heap.size 0 _) (grown_set _ w.heap.size 1 _)) (grown_set _ w.heap.size 2 _)) (grown_set _ w.heap.size 3 _)
            have NXT : Hid (AdR w (⟨yk, yi, yd, yc⟩, dn, out) u5 w2) := Lib.hid ((R0.out.grow RB.out).set ⟨yk, yi, yd, yc⟩ bk gg)
            have HW2 := Lib.hid hw2
            clear hw2 bk gg bx RB R0
            go_upto_region 5 with fail
            rw [HW2.out]
            go_wp2_with fail
            go_roundw
            case rel => exact ⟨k + 1, by go_num, KC.out, by rw [ES.out], by rw [ES.out]; first | exact NXT | exact Lib.hid (NXT.out.grow (Below.refl _ _).drew)⟩
            case measure => simp [intOf]; have := KC.out; omega
        · have gl : decide (yc < xc) = false := decide_eq_false lt
          have ES : Hid (adK x l (k + 1) = (⟨xk, xi, xd, xc⟩, dn, out)) := Lib.hid (by rw [ES0.out]; unfold adS; rw [if_pos HCV.out]; unfold bestL; rw [if_neg lt])
          clear ES0 HCV lt
          go_upto_region 6 with fail
          go_region_held3 (fun W' => W'.cell? ⟨w.heap.size, 0, none⟩ = some (.int .i64 xk) ∧ W'.cell? ⟨w.heap.size, 1, none⟩ = some (.int .u32 xi) ∧ W'.cell? ⟨w.heap.size, 2, none⟩ = some (.int .u32 xd) ∧ W'.cell? ⟨w.heap.size, 3, none⟩ = some (.int .i64 xc) ∧ W'.cell? ⟨b1, o1 + k * 4, none⟩ = some (.int .i64 yk) ∧ W'.cell? ⟨b1, o1 + k * 4 + 1, none⟩ = some (.int .u32 yi) ∧ W'.cell? ⟨b1, o1 + k * 4 + 2, none⟩ = some (.int .u32 yd) ∧ W'.cell? ⟨b1, o1 + k * 4 + 3, none⟩ = some (.int .i64 yc)) (first | with_reducible exact ⟨b0, b1', b2, b3, b4, b5, b6, b7⟩ | with_reducible exact ⟨p0, p1, p2, p3, p4, p5, p6, p7⟩ | go_keep)
            (first | (go_at_call 82; refine (LC _).mono ?_; rintro e w1 ⟨rfl, G1⟩; have p0 := bcell G1.b b0; have p1 := bcell G1.b b1'; have p2 := bcell G1.b b2; have p3 := bcell G1.b b3; have p4 := bcell G1.b b4; have p5 := bcell G1.b b5; have p6 := bcell G1.b b6; have p7 := bcell G1.b b7; have RB : Hid (Below wr.heap.size wr w1) := Lib.hid (by first | exact (Below.refl _ wr).drew.trans G1.b | exact G1.b); clear G1))
          go_wp2_with fail
          go_region_held3 (fun W' => W'.cell? ⟨w.heap.size, 0, none⟩ = some (.int .i64 xk) ∧ W'.cell? ⟨w.heap.size, 1, none⟩ = some (.int .u32 xi) ∧ W'.cell? ⟨w.heap.size, 2, none⟩ = some (.int .u32 xd) ∧ W'.cell? ⟨w.heap.size, 3, none⟩ = some (.int .i64 xc) ∧ W'.cell? ⟨b1, o1 + k * 4, none⟩ = some (.int .i64 yk) ∧ W'.cell? ⟨b1, o1 + k * 4 + 1, none⟩ = some (.int .u32 yi) ∧ W'.cell? ⟨b1, o1 + k * 4 + 2, none⟩ = some (.int .u32 yd) ∧ W'.cell? ⟨b1, o1 + k * 4 + 3, none⟩ = some (.int .i64 yc)) (first | with_reducible exact ⟨p0, p1, p2, p3, p4, p5, p6, p7⟩ | go_keep) (first | fail)
          all_goals
            have NXT : Hid (AdR w (⟨xk, xi, xd, xc⟩, dn, out) u5 w1) := Lib.hid (R0.out.grow RB.out)
            clear RB R0
            go_wp2_with fail
            go_roundw
            case rel => exact ⟨k + 1, by go_num, KC.out, by rw [ES.out], by rw [ES.out]; first | exact NXT | exact Lib.hid (NXT.out.grow (Below.refl _ _).drew)⟩
            case measure => simp [intOf]; have := KC.out; omega
      · have qn : (cv == 0) = false := by simpa using q
        have nz : ¬ lnkCmp ⟨xk, xi, xd, xc⟩ ⟨yk, yi, yd, yc⟩ = 0 := by rw [HCV.out]; exact q
        by_cases q2 : dn = false ∧ cv < 0
        · obtain ⟨rfl, lt⟩ := q2
          have gl : decide (cv < 0) = true := decide_eq_true lt
          have ES : Hid (adK x l (k + 1) = (⟨xk, xi, xd, xc⟩, true, out ++ [⟨xk, xi, xd, xc⟩] ++ [⟨yk, yi, yd, yc⟩])) := Lib.hid (by rw [ES0.out]; unfold adS; rw [if_neg nz, if_pos ⟨rfl, by rw [HCV.out]; exact lt⟩])
          clear ES0 HCV lt nz q
          go_upto_region 6 with fail
          go_region_held3 (fun W' => W'.cell? ⟨w.heap.size, 0, none⟩ = some (.int .i64 xk) ∧ W'.cell? ⟨w.heap.size, 1, none⟩ = some (.int .u32 xi) ∧ W'.cell? ⟨w.heap.size, 2, none⟩ = some (.int .u32 xd) ∧ W'.cell? ⟨w.heap.size, 3, none⟩ = some (.int .i64 xc) ∧ W'.cell? ⟨b1, o1 + k * 4, none⟩ = some (.int .i64 yk) ∧ W'.cell? ⟨b1, o1 + k * 4 + 1, none⟩ = some (.int .u32 yi) ∧ W'.cell? ⟨b1, o1 + k * 4 + 2, none⟩ = some (.int .u32 yd) ∧ W'.cell? ⟨b1, o1 + k * 4 + 3, none⟩ = some (.int .i64 yc)) (first | with_reducible exact ⟨b0, b1', b2, b3, b4, b5, b6, b7⟩ | with_reducible exact ⟨p0, p1, p2, p3, p4, p5, p6, p7⟩ | go_keep)
            (first | (go_at_call 82; refine (LC _).mono ?_; rintro e w1 ⟨rfl, G1⟩; have p0 := bcell G1.b b0; have p1 := bcell G1.b b1'; have p2 := bcell G1.b b2; have p3 := bcell G1.b b3; have p4 := bcell G1.b b4; have p5 := bcell G1.b b5; have p6 := bcell G1.b b6; have p7 := bcell G1.b b7; have RB : Hid (Below wr.heap.size wr w1) := Lib.hid (by first | exact (Below.refl _ wr).drew.trans G1.b | exact G1.b); clear G1))
          all_goals
            have R1 : Hid (AdR w (⟨xk, xi, xd, xc⟩, true, out) u5 w1) := Lib.hid ⟨(R0.out.grow RB.out).box, (R0.out.grow RB.out).own, (R0.out.grow RB.out).bel⟩
            clear RB R0
            obtain ⟨V1, hV1⟩ : ∃ V1, w1.alloc (.cells #[.int .i64 xk, .int .u32 xi, .int .u32 xd, .int .i64 xc] 82) = V1 := ⟨_, rfl⟩
            have BV1 : Below w1.heap.size w1 V1 := by rw [← hV1]; exact (Below.refl _ _).alloc (Nat.le_refl _) _
            have BK1 : Hid (V1.heap[w1.heap.size]? = some (.cells #[.int .i64 xk, .int .u32 xi, .int .u32 xd, .int .i64 xc] 82 (0, 0))) := Lib.hid (by rw [← hV1]; exact alloc_new _ _)
            have OW1 : Hid (V1.ownsRow (w.heap.size + 1) 82 4 u5 out.length ((out).map lnkE).flatten) := Lib.hid (R1.out.own.below BV1)
            have PU1 := Lib.hid (fun v' w4 own' hg => R1.out.push (⟨xk, xi, xd, xc⟩ : Lnk) (v' := v') (w4 := w4) BV1 own' hg)
            have BS1 : Hid (w.heap.size + 1 ≤ V1.heap.size) := Lib.hid (Nat.le_trans (blk_lt R1.out.box) BV1.size)
            have KA1 : Hid ((out).length + 1 ≤ maxLen) := Lib.hid (by have := LEN.out; unfold maxLen; (try simp only [List.length_append, List.length_singleton]); omega)
            have KB1 : Hid (((out).length + 1) * 24 ≤ 140737488355328) := Lib.hid (by have := LEN.out; (try simp only [List.length_append, List.length_singleton]); omega)
            have ON1 : Hid (∀ u ∈ ([.int .i64 xk, .int .u32 xi, .int .u32 xd, .int .i64 xc] : List Value), u.oneCell' = true) := Lib.hid (by intro u hu; simp at hu; rcases hu with rfl | rfl | rfl | rfl <;> rfl)
            have HV1 := Lib.hid hV1
            clear hV1 BV1
            go_upto_region 12 with (at_builtin; rw [HV1.out]; refine wpList_append_one rfl (.tmp 42) (.tmp 44) 38 rfl (w.heap.size + 1) 82 ti (.agg #[.int .i64 0, .int .u32 0, .int .u32 0, .int .i64 0]) 4 24 Tryz.underlying38 ?g1 ?g2 ?g3 ?g4 ?g5 ?g6 u5 (out).length _ ?g7 OW1.out w1.heap.size [.int .i64 xk, .int .u32 xi, .int .u32 xd, .int .i64 xc] 82 ?g8 BK1.out ?g9 ON1.out KA1.out KB1.out BS1.out ?_; (case g1 => exact HI.out); (case g2 => exact HZ0.out); (case g3 => exact HZ1.out); (case g4 => exact HZ2.out); (case g5 => exact rfl); (case g6 => decide); (case g7 => exact rfl); (case g8 => exact rfl); (case g9 => exact rfl); intro v1 w1' own' hg4 d; have NX1 := Lib.hid (PU1.out v1 w1' own' hg4); clear own' hg4 d)
            have R2 := NX1
            have gk := NX1.out.bel
            have q4 : w1'.cell? ⟨b1, o1 + k * 4, none⟩ = some (.int .i64 yk) := (World.cell?_of_block (w := w) (w' := w1') (a := ⟨b1, _, none⟩) (gk.block b1 HB1.out)).trans R4.out.1
            have q5 : w1'.cell? ⟨b1, o1 + k * 4 + 1, none⟩ = some (.int .u32 yi) := (World.cell?_of_block (w := w) (w' := w1') (a := ⟨b1, _, none⟩) (gk.block b1 HB1.out)).trans R4.out.2.1
            have q6 : w1'.cell? ⟨b1, o1 + k * 4 + 2, none⟩ = some (.int .u32 yd) := (World.cell?_of_block (w := w) (w' := w1') (a := ⟨b1, _, none⟩) (gk.block b1 HB1.out)).trans R4.out.2.2.1
            have q7 : w1'.cell? ⟨b1, o1 + k * 4 + 3, none⟩ = some (.int .i64 yc) := (World.cell?_of_block (w := w) (w' := w1') (a := ⟨b1, _, none⟩) (gk.block b1 HB1.out)).trans R4.out.2.2.2
            clear gk p0 p1 p2 p3 p4 p5 p6 p7
            obtain ⟨V2, hV2⟩ : ∃ V2, w1'.alloc (.cells #[.int .i64 yk, .int .u32 yi, .int .u32 yd, .int .i64 yc] 82) = V2 := ⟨_, rfl⟩
            have BV2 : Below w1'.heap.size w1' V2 := by rw [← hV2]; exact (Below.refl _ _).alloc (Nat.le_refl _) _
            have BK2 : Hid (V2.heap[w1'.heap.size]? = some (.cells #[.int .i64 yk, .int .u32 yi, .int .u32 yd, .int .i64 yc] 82 (0, 0))) := Lib.hid (by rw [← hV2]; exact alloc_new _ _)
            have OW2 : Hid (V2.ownsRow (w.heap.size + 1) 82 4 v1 (out ++ [(⟨xk, xi, xd, xc⟩ : Lnk)]).length (((out ++ [(⟨xk, xi, xd, xc⟩ : Lnk)])).map lnkE).flatten) := Lib.hid (R2.out.own.below BV2)
            have PU2 := Lib.hid (fun v' w4 own' hg => R2.out.push (⟨yk, yi, yd, yc⟩ : Lnk) (v' := v') (w4 := w4) BV2 own' hg)
            have BS2 : Hid (w.heap.size + 1 ≤ V2.heap.size) := Lib.hid (Nat.le_trans (blk_lt R2.out.box) BV2.size)
            have KA2 : Hid (((out ++ [(⟨xk, xi, xd, xc⟩ : Lnk)])).length + 1 ≤ maxLen) := Lib.hid (by have := LEN.out; unfold maxLen; (try simp only [List.length_append, List.length_singleton]); omega)
            have KB2 : Hid ((((out ++ [(⟨xk, xi, xd, xc⟩ : Lnk)])).length + 1) * 24 ≤ 140737488355328) := Lib.hid (by have := LEN.out; (try simp only [List.length_append, List.length_singleton]); omega)
            have ON2 : Hid (∀ u ∈ ([.int .i64 yk, .int .u32 yi, .int .u32 yd, .int .i64 yc] : List Value), u.oneCell' = true) := Lib.hid (by intro u hu; simp at hu; rcases hu with rfl | rfl | rfl | rfl <;> rfl)
            have HV2 := Lib.hid hV2
            clear hV2 BV2
            go_wp2_with (at_builtin; rw [HV2.out]; refine wpList_append_one rfl (.tmp 46) (.tmp 51) 38 rfl (w.heap.size + 1) 82 ti (.agg #[.int .i64 0, .int .u32 0, .int .u32 0, .int .i64 0]) 4 24 Tryz.underlying38 ?g1 ?g2 ?g3 ?g4 ?g5 ?g6 v1 ((out ++ [(⟨xk, xi, xd, xc⟩ : Lnk)])).length _ ?g7 OW2.out w1'.heap.size [.int .i64 yk, .int .u32 yi, .int .u32 yd, .int .i64 yc] 82 ?g8 BK2.out ?g9 ON2.out KA2.out KB2.out BS2.out ?_; (case g1 => exact HI.out); (case g2 => exact HZ0.out); (case g3 => exact HZ1.out); (case g4 => exact HZ2.out); (case g5 => exact rfl); (case g6 => decide); (case g7 => exact rfl); (case g8 => exact rfl); (case g9 => exact rfl); intro v2 w2' own' hg4 d; have NX2 := Lib.hid (PU2.out v2 w2' own' hg4); clear own' hg4 d)
            have NXT := NX2
            go_roundw
            case rel => exact ⟨k + 1, by go_num, KC.out, by rw [ES.out], by rw [ES.out]; first | exact NXT | exact Lib.hid (NXT.out.grow (Below.refl _ _).drew)⟩
            case measure => simp [intOf]; have := KC.out; omega
        · have ES : Hid (adK x l (k + 1) = (⟨xk, xi, xd, xc⟩, dn, out ++ [⟨yk, yi, yd, yc⟩])) := Lib.hid (by rw [ES0.out]; unfold adS; rw [if_neg nz, if_neg (by rw [HCV.out]; exact q2)])
          have gl : dn = false → decide (cv < 0) = false := fun e => decide_eq_false (fun z => q2 ⟨e, z⟩)
          clear ES0 HCV nz q
          cases dn with
          | true =>
            clear gl q2
            go_upto_region 6 with fail
            go_region_held3 (fun W' => W'.cell? ⟨w.heap.size, 0, none⟩ = some (.int .i64 xk) ∧ W'.cell? ⟨w.heap.size, 1, none⟩ = some (.int .u32 xi) ∧ W'.cell? ⟨w.heap.size, 2, none⟩ = some (.int .u32 xd) ∧ W'.cell? ⟨w.heap.size, 3, none⟩ = some (.int .i64 xc) ∧ W'.cell? ⟨b1, o1 + k * 4, none⟩ = some (.int .i64 yk) ∧ W'.cell? ⟨b1, o1 + k * 4 + 1, none⟩ = some (.int .u32 yi) ∧ W'.cell? ⟨b1, o1 + k * 4 + 2, none⟩ = some (.int .u32 yd) ∧ W'.cell? ⟨b1, o1 + k * 4 + 3, none⟩ = some (.int .i64 yc)) (first | with_reducible exact ⟨b0, b1', b2, b3, b4, b5, b6, b7⟩ | with_reducible exact ⟨p0, p1, p2, p3, p4, p5, p6, p7⟩ | go_keep)
              (first | (go_at_call 82; refine (LC _).mono ?_; rintro e w1 ⟨rfl, G1⟩; have p0 := bcell G1.b b0; have p1 := bcell G1.b b1'; have p2 := bcell G1.b b2; have p3 := bcell G1.b b3; have p4 := bcell G1.b b4; have p5 := bcell G1.b b5; have p6 := bcell G1.b b6; have p7 := bcell G1.b b7; have RB : Hid (Below wr.heap.size wr w1) := Lib.hid (by first | exact (Below.refl _ wr).drew.trans G1.b | exact G1.b); clear G1))
            all_goals
              have R1 : Hid (AdR w (⟨xk, xi, xd, xc⟩, true, out) u5 w1) := Lib.hid (R0.out.grow RB.out)
              clear RB R0
              obtain ⟨V1, hV1⟩ : ∃ V1, w1.alloc (.cells #[.int .i64 yk, .int .u32 yi, .int .u32 yd, .int .i64 yc] 82) = V1 := ⟨_, rfl⟩
              have BV1 : Below w1.heap.size w1 V1 := by rw [← hV1]; exact (Below.refl _ _).alloc (Nat.le_refl _) _
              have BK1 : Hid (V1.heap[w1.heap.size]? = some (.cells #[.int .i64 yk, .int .u32 yi, .int .u32 yd, .int .i64 yc] 82 (0, 0))) := Lib.hid (by rw [← hV1]; exact alloc_new _ _)
              have OW1 : Hid (V1.ownsRow (w.heap.size + 1) 82 4 u5 out.length ((out).map lnkE).flatten) := Lib.hid (R1.out.own.below BV1)
              have PU1 := Lib.hid (fun v' w4 own' hg => R1.out.push (⟨yk, yi, yd, yc⟩ : Lnk) (v' := v') (w4 := w4) BV1 own' hg)
              have BS1 : Hid (w.heap.size + 1 ≤ V1.heap.size) := Lib.hid (Nat.le_trans (blk_lt R1.out.box) BV1.size)
              have KA1 : Hid ((out).length + 1 ≤ maxLen) := Lib.hid (by have := LEN.out; unfold maxLen; (try simp only [List.length_append, List.length_singleton]); omega)
              have KB1 : Hid (((out).length + 1) * 24 ≤ 140737488355328) := Lib.hid (by have := LEN.out; (try simp only [List.length_append, List.length_singleton]); omega)
              have ON1 : Hid (∀ u ∈ ([.int .i64 yk, .int .u32 yi, .int .u32 yd, .int .i64 yc] : List Value), u.oneCell' = true) := Lib.hid (by intro u hu; simp at hu; rcases hu with rfl | rfl | rfl | rfl <;> rfl)
              have HV1 := Lib.hid hV1
              clear hV1 BV1
              go_wp2_with (at_builtin; rw [HV1.out]; refine wpList_append_one rfl (.tmp 46) (.tmp 51) 38 rfl (w.heap.size + 1) 82 ti (.agg #[.int .i64 0, .int .u32 0, .int .u32 0, .int .i64 0]) 4 24 Tryz.underlying38 ?g1 ?g2 ?g3 ?g4 ?g5 ?g6 u5 (out).length _ ?g7 OW1.out w1.heap.size [.int .i64 yk, .int .u32 yi, .int .u32 yd, .int .i64 yc] 82 ?g8 BK1.out ?g9 ON1.out KA1.out KB1.out BS1.out ?_; (case g1 => exact HI.out); (case g2 => exact HZ0.out); (case g3 => exact HZ1.out); (case g4 => exact HZ2.out); (case g5 => exact rfl); (case g6 => decide); (case g7 => exact rfl); (case g8 => exact rfl); (case g9 => exact rfl); intro v1 w1' own' hg4 d; have NX1 := Lib.hid (PU1.out v1 w1' own' hg4); clear own' hg4 d)
              have NXT := NX1
              go_roundw
              case rel => exact ⟨k + 1, by go_num, KC.out, by rw [ES.out], by rw [ES.out]; first | exact NXT | exact Lib.hid (NXT.out.grow (Below.refl _ _).drew)⟩
              case measure => simp [intOf]; have := KC.out; omega
          | false =>
            have gl2 := gl rfl
            clear gl q2
            go_upto_region 6 with fail
            go_region_held3 (fun W' => W'.cell? ⟨w.heap.size, 0, none⟩ = some (.int .i64 xk) ∧ W'.cell? ⟨w.heap.size, 1, none⟩ = some (.int .u32 xi) ∧ W'.cell? ⟨w.heap.size, 2, none⟩ = some (.int .u32 xd) ∧ W'.cell? ⟨w.heap.size, 3, none⟩ = some (.int .i64 xc) ∧ W'.cell? ⟨b1, o1 + k * 4, none⟩ = some (.int .i64 yk) ∧ W'.cell? ⟨b1, o1 + k * 4 + 1, none⟩ = some (.int .u32 yi) ∧ W'.cell? ⟨b1, o1 + k * 4 + 2, none⟩ = some (.int .u32 yd) ∧ W'.cell? ⟨b1, o1 + k * 4 + 3, none⟩ = some (.int .i64 yc)) (first | with_reducible exact ⟨b0, b1', b2, b3, b4, b5, b6, b7⟩ | with_reducible exact ⟨p0, p1, p2, p3, p4, p5, p6, p7⟩ | go_keep)
              (first | (go_at_call 82; refine (LC _).mono ?_; rintro e w1 ⟨rfl, G1⟩; have p0 := bcell G1.b b0; have p1 := bcell G1.b b1'; have p2 := bcell G1.b b2; have p3 := bcell G1.b b3; have p4 := bcell G1.b b4; have p5 := bcell G1.b b5; have p6 := bcell G1.b b6; have p7 := bcell G1.b b7; have RB : Hid (Below wr.heap.size wr w1) := Lib.hid (by first | exact (Below.refl _ wr).drew.trans G1.b | exact G1.b); clear G1))
            all_goals
              have R1 : Hid (AdR w (⟨xk, xi, xd, xc⟩, false, out) u5 w1) := Lib.hid (R0.out.grow RB.out)
              clear RB R0
              obtain ⟨V1, hV1⟩ : ∃ V1, w1.alloc (.cells #[.int .i64 yk, .int .u32 yi, .int .u32 yd, .int .i64 yc] 82) = V1 := ⟨_, rfl⟩
              have BV1 : Below w1.heap.size w1 V1 := by rw [← hV1]; exact (Below.refl _ _).alloc (Nat.le_refl _) _
              have BK1 : Hid (V1.heap[w1.heap.size]? = some (.cells #[.int .i64 yk, .int .u32 yi, .int .u32 yd, .int .i64 yc] 82 (0, 0))) := Lib.hid (by rw [← hV1]; exact alloc_new _ _)
              have OW1 : Hid (V1.ownsRow (w.heap.size + 1) 82 4 u5 out.length ((out).map lnkE).flatten) := Lib.hid (R1.out.own.below BV1)
              have PU1 := Lib.hid (fun v' w4 own' hg => R1.out.push (⟨yk, yi, yd, yc⟩ : Lnk) (v' := v') (w4 := w4) BV1 own' hg)
              have BS1 : Hid (w.heap.size + 1 ≤ V1.heap.size) := Lib.hid (Nat.le_trans (blk_lt R1.out.box) BV1.size)
              have KA1 : Hid ((out).length + 1 ≤ maxLen) := Lib.hid (by have := LEN.out; unfold maxLen; (try simp only [List.length_append, List.length_singleton]); omega)
              have KB1 : Hid (((out).length + 1) * 24 ≤ 140737488355328) := Lib.hid (by have := LEN.out; (try simp only [List.length_append, List.length_singleton]); omega)
              have ON1 : Hid (∀ u ∈ ([.int .i64 yk, .int .u32 yi, .int .u32 yd, .int .i64 yc] : List Value), u.oneCell' = true) := Lib.hid (by intro u hu; simp at hu; rcases hu with rfl | rfl | rfl | rfl <;> rfl)
              have HV1 := Lib.hid hV1
              clear hV1 BV1
              go_wp2_with (at_builtin; rw [HV1.out]; refine wpList_append_one rfl (.tmp 46) (.tmp 51) 38 rfl (w.heap.size + 1) 82 ti (.agg #[.int .i64 0, .int .u32 0, .int .u32 0, .int .i64 0]) 4 24 Tryz.underlying38 ?g1 ?g2 ?g3 ?g4 ?g5 ?g6 u5 (out).length _ ?g7 OW1.out w1.heap.size [.int .i64 yk, .int .u32 yi, .int .u32 yd, .int .i64 yc] 82 ?g8 BK1.out ?g9 ON1.out KA1.out KB1.out BS1.out ?_; (case g1 => exact HI.out); (case g2 => exact HZ0.out); (case g3 => exact HZ1.out); (case g4 => exact HZ2.out); (case g5 => exact rfl); (case g6 => decide); (case g7 => exact rfl); (case g8 => exact rfl); (case g9 => exact rfl); intro v1 w1' own' hg4 d; have NX1 := Lib.hid (PU1.out v1 w1' own' hg4); clear own' hg4 d)
              have NXT := NX1
              go_roundw
              case rel => exact ⟨k + 1, by go_num, KC.out, by rw [ES.out], by rw [ES.out]; first | exact NXT | exact Lib.hid (NXT.out.grow (Below.refl _ _).drew)⟩
              case measure => simp [intOf]; have := KC.out; omega
    · obtain rfl : k = l.length := by omega
      have AL := Lib.hid (adK_all x l)
      have LEN : Hid ((adK x l l.length).2.2.length ≤ 8388608) := Lib.hid (by have := adK_len x l l.length (Nat.le_refl _); omega)
      generalize adK x l l.length = s at *
      obtain ⟨⟨xk, xi, xd, xc⟩, dn, out⟩ := s
      simp only at LEN
      have bx := R.out.box
      simp only [lnkE] at bx
      have b0 := blk_cell (i := 0) bx rfl
      have b1' := blk_cell (i := 1) bx rfl
      have b2 := blk_cell (i := 2) bx rfl
      have b3 := blk_cell (i := 3) bx rfl
      have R1 := R
      clear bx R
      cases dn with
      | true =>
        have E : Hid (AdPost w (addR x false l) (.returned u5) wr) := Lib.hid ⟨_, rfl, by rw [← AL.out]; exact R1.out.own.at, (Fr.own R1.out.own).mono (Nat.le_succ _), R1.out.bel⟩
        clear R1 AL
        go_wp2_with fail
        go_ret
        exact E.out
      | false =>
        obtain ⟨V1, hV1⟩ : ∃ V1, wr.alloc (.cells #[.int .i64 xk, .int .u32 xi, .int .u32 xd, .int .i64 xc] 82) = V1 := ⟨_, rfl⟩
        have BV1 : Below wr.heap.size wr V1 := by rw [← hV1]; exact (Below.refl _ _).alloc (Nat.le_refl _) _
        have BK1 : Hid (V1.heap[wr.heap.size]? = some (.cells #[.int .i64 xk, .int .u32 xi, .int .u32 xd, .int .i64 xc] 82 (0, 0))) := Lib.hid (by rw [← hV1]; exact alloc_new _ _)
        have OW1 : Hid (V1.ownsRow (w.heap.size + 1) 82 4 u5 out.length ((out).map lnkE).flatten) := Lib.hid (R1.out.own.below BV1)
        have PU1 := Lib.hid (fun v' w4 own' hg => R1.out.push (⟨xk, xi, xd, xc⟩ : Lnk) (v' := v') (w4 := w4) BV1 own' hg)
        have BS1 : Hid (w.heap.size + 1 ≤ V1.heap.size) := Lib.hid (Nat.le_trans (blk_lt R1.out.box) BV1.size)
        have KA1 : Hid ((out).length + 1 ≤ maxLen) := Lib.hid (by have := LEN.out; unfold maxLen; (try simp only [List.length_append, List.length_singleton]); omega)
        have KB1 : Hid (((out).length + 1) * 24 ≤ 140737488355328) := Lib.hid (by have := LEN.out; (try simp only [List.length_append, List.length_singleton]); omega)
        have ON1 : Hid (∀ u ∈ ([.int .i64 xk, .int .u32 xi, .int .u32 xd, .int .i64 xc] : List Value), u.oneCell' = true) := Lib.hid (by intro u hu; simp at hu; rcases hu with rfl | rfl | rfl | rfl <;> rfl)
        have HV1 := Lib.hid hV1
        clear hV1 BV1
        go_upto_region 16 with (at_builtin; rw [HV1.out]; refine wpList_append_one rfl (.tmp 55) (.tmp 57) 38 rfl (w.heap.size + 1) 82 ti (.agg #[.int .i64 0, .int .u32 0, .int .u32 0, .int .i64 0]) 4 24 Tryz.underlying38 ?g1 ?g2 ?g3 ?g4 ?g5 ?g6 u5 (out).length _ ?g7 OW1.out wr.heap.size [.int .i64 xk, .int .u32 xi, .int .u32 xd, .int .i64 xc] 82 ?g8 BK1.out ?g9 ON1.out KA1.out KB1.out BS1.out ?_; (case g1 => exact HI.out); (case g2 => exact HZ0.out); (case g3 => exact HZ1.out); (case g4 => exact HZ2.out); (case g5 => exact rfl); (case g6 => decide); (case g7 => exact rfl); (case g8 => exact rfl); (case g9 => exact rfl); intro v1 w1' own' hg4 d; have NX1 := Lib.hid (PU1.out v1 w1' own' hg4); clear own' hg4 d)
        have E : Hid (AdPost w (addR x false l) (.returned v1) w1') := Lib.hid ⟨_, rfl, by rw [← AL.out]; exact NX1.out.own.at, (Fr.own NX1.out.own).mono (Nat.le_succ _), NX1.out.bel⟩
        clear NX1 AL
        go_wp2_with fail
        go_ret
        exact E.out

end Go.Proofs.YtddageahmgaigaaGreat
