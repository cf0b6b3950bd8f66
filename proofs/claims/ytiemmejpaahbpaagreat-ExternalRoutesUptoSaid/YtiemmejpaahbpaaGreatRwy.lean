/-
  routingref34.way: the way to a boundary router.
-/
import Derived.Test.YtiemmejpaahbpaaGreatRmg
import Derived.Test.YtiemmejpaahbpaaGreatRfp
namespace Go.Proofs.YtiemmejpaahbpaaGreat
open Go.RowKit

theorem hop_room2 {q a b : Nat} (h : a + b ≤ q) (hn : (q + 2) * 16 ≤ 140737488355328) : (a + b + 2) * 16 ≤ 140737488355328 :=
  Nat.le_trans (Nat.mul_le_mul_right 16 (by clear hn; omega)) hn
theorem hop_room3 {q b : Nat} (h : b ≤ q) (hn : (q + 2) * 16 ≤ 140737488355328) : (([] : List Ls.Hop).length + b + 2) * 16 ≤ 140737488355328 :=
  Nat.le_trans (Nat.mul_le_mul_right 16 (by clear hn; simp; omega)) hn
theorem hops_nil (w : World) : HopsAt w (.slice none 0 0) [] := ⟨none, 0, rfl, Nat.zero_le _, Nat.zero_le _, fun _ => rfl, fun h => by simp at h⟩

def rwK (router : Int) (pb : Bool) (l : List Rch) (k : Nat) : RwSt := (l.take k).foldl (rwStep router pb) ⟨0, false, []⟩
theorem rwK_succ (router : Int) (pb : Bool) (l : List Rch) (k : Nat) (h : k < l.length) : rwK router pb l (k + 1) = rwStep router pb (rwK router pb l k) l[k] := by
  unfold rwK; rw [take_fold _ _ _ _ h]
theorem rwStep_len (router : Int) (pb : Bool) (s : RwSt) (x : Rch) : (rwStep router pb s x).hops.length ≤ s.hops.length + x.hops.length := by
  unfold rwStep
  split
  · omega
  · have := Ls.merge_length_le (lt := Ls.hopLt) (if rwNew s x then [] else s.hops) x.hops
    refine Nat.le_trans this ?_
    split
    · simp
    · omega
theorem rwK_len (router : Int) (pb : Bool) (l : List Rch) : ∀ k, k ≤ l.length → (rwK router pb l k).hops.length ≤ hopSum (l.take k)
  | 0, _ => by simp [rwK]
  | k + 1, hk => by
    have ih := rwK_len router pb l k (by omega)
    rw [rwK_succ _ _ _ _ (by omega), hopSum_take _ _ (by omega)]
    have := rwStep_len router pb (rwK router pb l k) l[k]
    omega
theorem rwK_room (router : Int) (pb : Bool) (l : List Rch) (k : Nat) (c : k < l.length) : (rwK router pb l k).hops.length + l[k].hops.length ≤ hopSum l := by
  have h1 := rwK_len router pb l k (by omega)
  have h2 := hopSum_take l k c
  have h3 := hopSum_le l (k + 1)
  omega

/-- a slice, if it has a block, lies in a new one -/
def New (B : Nat) (v : Value) : Prop := ∀ b off n c, v = .slice (some ⟨b, off, none⟩) n c → B ≤ b
theorem HopsOwn.new {base : Nat} {w : World} {v : Value} {l : List Ls.Hop} (h : HopsOwn base w v l) {B : Nat} (hB : B ≤ base) : New B v := by
  rintro b off n c rfl
  rcases own_cases h with ⟨e, _⟩ | ⟨g, cap, cur, e, h1, _⟩
  · cases e
  · cases e
    exact Nat.le_trans hB h1

structure RwRel (w : World) (router : Int) (pb : Bool) (l : List Rch) (k : Nat) (b o h : Value) (wr : World) : Prop where
  hk : k ≤ l.length
  e8 : b = .int .i64 (rwK router pb l k).cost
  e9 : o = .bool (rwK router pb l k).ok
  h10 : HopsAt wr h (rwK router pb l k).hops
  bel : Below w.heap.size w wr
  nw : New w.heap.size h

theorem RwRel.skip {w : World} {router : Int} {pb : Bool} {l : List Rch} {k : Nat} {b o h : Value} {wr W' : World} (R : RwRel w router pb l k b o h wr) (c : k < l.length) (hs : rwSkip router pb (rwK router pb l k) l[k] = true) (g : Gr wr W') : RwRel w router pb l (k + 1) b o h W' := by
  have e : rwK router pb l (k + 1) = rwK router pb l k := by rw [rwK_succ _ _ _ _ c]; unfold rwStep; rw [if_pos hs]
  exact ⟨c, by rw [e]; exact R.e8, by rw [e]; exact R.e9, by rw [e]; exact R.h10.below g.b, R.bel.trans (g.b.mono R.bel.size), R.nw⟩
theorem RwRel.take {w : World} {router : Int} {pb : Bool} {l : List Rch} {k : Nat} {b o h : Value} {wr : World} (R : RwRel w router pb l k b o h wr) (c : k < l.length) (hs : rwSkip router pb (rwK router pb l k) l[k] = false) {w2 : World} {v2 : Value}
    (hv : HopsAt w2 v2 (Ls.merge Ls.hopLt (if rwNew (rwK router pb l k) l[k] then [] else (rwK router pb l k).hops) l[k].hops)) (nw : New wr.heap.size v2) (g : Below wr.heap.size wr w2) : RwRel w router pb l (k + 1) (.int .i64 l[k].cost) (.bool true) v2 w2 := by
  have e : rwK router pb l (k + 1) = ⟨l[k].cost, true, Ls.merge Ls.hopLt (if rwNew (rwK router pb l k) l[k] then [] else (rwK router pb l k).hops) l[k].hops⟩ := by rw [rwK_succ _ _ _ _ c]; unfold rwStep; rw [if_neg (by simp [hs])]
  exact ⟨c, by rw [e], by rw [e], by rw [e]; exact hv, R.bel.trans (g.mono R.bel.size), fun b off n c e => Nat.le_trans R.bel.size (nw b off n c e)⟩

def RwPost (w : World) (router : Int) (l : List Rch) (e : Ending) (w' : World) : Prop :=
  ∃ v s, e = .returned (.tuple #[.int .i64 s.cost, v, .bool s.ok]) ∧ (s = rwAll router l ∧ HopsAt w' v s.hops) ∧ Below w.heap.size w w' ∧ New w.heap.size v

theorem RwPost.mk {w w' : World} {router : Int} {l : List Rch} {v : Value} {s : RwSt} {b : Bool} (e : rwAll router l = s) (hb : s.ok = b) (hv : HopsAt w' v s.hops) (B : Below w.heap.size w w') (N : New w.heap.size v) : RwPost w router l (.returned (.tuple #[.int .i64 s.cost, v, .bool b])) w' := by
  subst hb; exact ⟨v, s, rfl, ⟨e.symm, hv⟩, B, N⟩

set_option maxHeartbeats 8000000 in
set_option maxRecDepth 100000 in
theorem rway_calls (w : World) (v : Value) (l : List Rch) (router : Int) (h : ReachAt w v l) (hn : (hopSum l + 2) * 16 ≤ 140737488355328) : Calls Tryz.prog 31 #[v, .int .u32 router] w (RwPost w router l) := by
  obtain ⟨ad, cap, rfl, hlen, hc⟩ := h.get
  have HC := Lib.hid hc
  have HH := Lib.hid h.hops
  have HN := Lib.hid hn
  clear h hc hn
  go_enter Tryz.func31, Tryz.ntmps31
  go_wp2_with fail
  go_loopw [7] (fun p wr => ∃ pass : Nat, p = .int .i64 pass ∧ pass ≤ 2 ∧ Hid ((1 ≤ pass → (rwPass router false l).ok = false) ∧ (2 ≤ pass → (rwPass router true l).ok = false)) ∧ Hid (Below w.heap.size w wr)) (fun p _ => 2 - (intOf p).toNat)
  case atStart => exact ⟨0, rfl, by omega, Lib.hid ⟨fun h => by omega, fun h => by omega⟩, Lib.hid (Below.refl _ _)⟩
  case round =>
    obtain ⟨pass, rfl, hp, F, B⟩ := hrel
    have START : Hid (∀ pb, RwRel w router pb l 0 (.int .i64 0) (.bool false) (.slice (some ⟨wr.heap.size, 0, none⟩) 0 0) (wr.alloc (.cells #[] 59))) := Lib.hid (fun pb => by
      have O := World.ownsRow_made (size := 3) (e := 59) (base := wr.heap.size) wr #[] 0 (by simp) (by unfold maxLen; omega) rfl
      have O' : HopsOwn wr.heap.size (wr.alloc (.cells #[] 59)) (.slice (some ⟨wr.heap.size, 0, none⟩) 0 0) [] := by simpa [HopsOwn] using O
      exact ⟨Nat.zero_le _, rfl, rfl, O'.at, B.out.alloc B.out.size _, O'.new B.out.size⟩)
    rcases Nat.lt_or_ge pass 1 with p0 | p1
    · obtain rfl : pass = 0 := by omega
      have IN0 := Lib.hid (START.out false)
      clear p0 START hp F B
      go_wp2_with fail
      go_loopw [8, 9, 10, 11] (fun b o h i wi => ∃ k : Nat, i = .int .i64 k ∧ RwRel w router false l k b o h wi) (fun _ _ _ i _ => l.length - (intOf i).toNat)
      case atStart => exact ⟨0, rfl, IN0.out⟩
      case round =>
        clear IN0
        obtain ⟨k, rfl, RI⟩ := hrel
        have hk := RI.hk
        by_cases c : k < l.length
        · obtain ⟨b, off, rfl, hb0, hcc⟩ := HC.out (by omega)
          obtain ⟨d0, d1, d2, d3, d4, d5, d6⟩ := hcc k c
          have d0 := bcell RI.bel d0
          have d1 := bcell RI.bel d1
          have d2 := bcell RI.bel d2
          have d3 := bcell RI.bel d3
          have d4 := bcell RI.bel d4
          have d5 := bcell RI.bel d5
          have d6 := bcell RI.bel d6
          have SKIP := Lib.hid (fun (h : rwSkip router false (rwK router false l k) l[k] = true) W' (g : Gr wr W') => RI.skip c h g)
          have TAKE := Lib.hid (fun (h : rwSkip router false (rwK router false l k) l[k] = false) W' v' hv (nw : New wr.heap.size v') (g : Below wr.heap.size wr W') => RI.take c h (w2 := W') (v2 := v') hv nw g)
          have LN : Hid ((rwK router false l k).hops.length + l[k].hops.length ≤ hopSum l) := Lib.hid (rwK_room router false l k c)
          have HX : Hid (HopsAt wr (.slice l[k].ha l[k].hn l[k].hc) l[k].hops) := Lib.hid ((HH.out _ (List.getElem_mem c)).below RI.bel)
          have HB : Hid (HopsAt wr u10 (rwK router false l k).hops) := Lib.hid RI.h10
          obtain ⟨e8, e9⟩ : u8 = .int .i64 (rwK router false l k).cost ∧ u9 = .bool (rwK router false l k).ok := ⟨RI.e8, RI.e9⟩
          clear RI hcc
          generalize rwK router false l k = s at *
          obtain ⟨bc, bo, bh⟩ := s
          simp only at e8 e9
          subst e8 e9
          generalize l[k] = x at *
          obtain ⟨xr, xa, xi, xb, xbd, xc, xha, xhn, xhc, xhops⟩ := x
          simp only at d0 d1 d2 d3 d4 d5 d6 LN HX HB
          by_cases r0 : xr = router
          · have r0' := r0.symm
            subst r0'
            obtain ⟨W1, hW1⟩ : ∃ W1, wr.alloc (.cells #[.int .u32 router, .int .u32 xa, .bool xi, .bool xb, .bool xbd, .int .i64 xc, .slice xha xhn xhc] 61) = W1 := ⟨_, rfl⟩
            have G1 : Hid (Gr wr W1) := Lib.hid (by rw [← hW1]; exact (Gr.refl _).alloc _)
            have HX1 := Lib.hid (HX.out.below G1.out.b)
            have HB1 := Lib.hid (HB.out.below G1.out.b)
            have HW1 := Lib.hid hW1
            clear hW1
            cases xbd with
            | false =>
              have NXS := Lib.hid (SKIP.out (by simp [rwSkip]) W1 G1.out)
              go_wp2_with fail
              rw [HW1.out]
              go_roundw
              case rel => exact ⟨k + 1, by go_num, NXS.out⟩
              case measure => simp [intOf]; omega
            | true =>
              cases xi with
              | true =>
                have NXS := Lib.hid (SKIP.out (by simp [rwSkip]) W1 G1.out)
                go_wp2_with fail
                rw [HW1.out]
                go_roundw
                case rel => exact ⟨k + 1, by go_num, NXS.out⟩
                case measure => simp [intOf]; omega
              | false =>
                cases bo with
                | false =>
                  have ENW : Hid ((if rwNew ⟨bc, false, bh⟩ ⟨router, xa, false, xb, true, xc, xha, xhn, xhc, xhops⟩ then [] else bh) = []) := Lib.hid (by simp [rwNew])
                  have TK2 := Lib.hid (TAKE.out (by simp [rwSkip]))
                  have MC := Lib.hid (rmerge_calls W1 (.slice none 0 0) (.slice xha xhn xhc) [] xhops (hops_nil _) HX1.out (hop_room3 (Nat.le_trans (Nat.le_add_left _ _) LN.out) HN.out))
                  go_wp2_with fail
                  rw [HW1.out]
                  refine MC.out.mono ?_
                  rintro e w2 ⟨v2, rfl, O2, B2⟩
                  have NXT := Lib.hid (TK2.out w2 v2 (by rw [ENW.out]; exact O2.at) (O2.new G1.out.b.size) (G1.out.b.trans (B2.mono G1.out.b.size)))
                  clear O2 B2 MC TK2
                  go_wp2_with fail
                  go_roundw
                  case rel => first | exact ⟨k + 1, by go_num, NXT.out⟩ | ((repeat apply Exists.intro); exact ⟨⟨k + 1, by go_num, NXT.out⟩, rfl⟩)
                  case measure => simp [intOf]; omega
                | true =>
                  by_cases g1 : bc < xc
                  · have g2 : decide (bc < xc) = true := by simpa using g1
                    have NXS := Lib.hid (SKIP.out (by simp [rwSkip, g1]) W1 G1.out)
                    go_wp2_with fail
                    rw [HW1.out]
                    go_roundw
                    case rel => exact ⟨k + 1, by go_num, NXS.out⟩
                    case measure => simp [intOf]; omega
                  · have g2 : decide (bc < xc) = false := by simpa using g1
                    by_cases g3 : xc < bc
                    · have g4 : decide (xc < bc) = true := by simpa using g3
                      have ENW : Hid ((if rwNew ⟨bc, true, bh⟩ ⟨router, xa, false, xb, true, xc, xha, xhn, xhc, xhops⟩ then [] else bh) = []) := Lib.hid (by simp [rwNew, g3])
                      have TK2 := Lib.hid (TAKE.out (by simp [rwSkip, g1]))
                      have MC := Lib.hid (rmerge_calls W1 (.slice none 0 0) (.slice xha xhn xhc) [] xhops (hops_nil _) HX1.out (hop_room3 (Nat.le_trans (Nat.le_add_left _ _) LN.out) HN.out))
                      go_wp2_with fail
                      rw [HW1.out]
                      refine MC.out.mono ?_
                      rintro e w2 ⟨v2, rfl, O2, B2⟩
                      have NXT := Lib.hid (TK2.out w2 v2 (by rw [ENW.out]; exact O2.at) (O2.new G1.out.b.size) (G1.out.b.trans (B2.mono G1.out.b.size)))
                      clear O2 B2 MC TK2
                      go_wp2_with fail
                      go_roundw
                      case rel => first | exact ⟨k + 1, by go_num, NXT.out⟩ | ((repeat apply Exists.intro); exact ⟨⟨k + 1, by go_num, NXT.out⟩, rfl⟩)
                      case measure => simp [intOf]; omega
                    · have g4 : decide (xc < bc) = false := by simpa using g3
                      have ENW : Hid ((if rwNew ⟨bc, true, bh⟩ ⟨router, xa, false, xb, true, xc, xha, xhn, xhc, xhops⟩ then [] else bh) = bh) := Lib.hid (by simp [rwNew, g3])
                      have TK2 := Lib.hid (TAKE.out (by simp [rwSkip, g1]))
                      have MC := Lib.hid (rmerge_calls W1 u10 (.slice xha xhn xhc) bh xhops HB1.out HX1.out (hop_room2 LN.out HN.out))
                      go_wp2_with fail
                      rw [HW1.out]
                      refine MC.out.mono ?_
                      rintro e w2 ⟨v2, rfl, O2, B2⟩
                      have NXT := Lib.hid (TK2.out w2 v2 (by rw [ENW.out]; exact O2.at) (O2.new G1.out.b.size) (G1.out.b.trans (B2.mono G1.out.b.size)))
                      clear O2 B2 MC TK2
                      go_wp2_with fail
                      go_roundw
                      case rel => first | exact ⟨k + 1, by go_num, NXT.out⟩ | ((repeat apply Exists.intro); exact ⟨⟨k + 1, by go_num, NXT.out⟩, rfl⟩)
                      case measure => simp [intOf]; omega
          · have z1 : (xr != router) = true := by simpa using r0
            obtain ⟨W1, hW1⟩ : ∃ W1, wr.alloc (.cells #[.int .u32 xr, .int .u32 xa, .bool xi, .bool xb, .bool xbd, .int .i64 xc, .slice xha xhn xhc] 61) = W1 := ⟨_, rfl⟩
            have G1 : Hid (Gr wr W1) := Lib.hid (by rw [← hW1]; exact (Gr.refl _).alloc _)
            have HX1 := Lib.hid (HX.out.below G1.out.b)
            have HB1 := Lib.hid (HB.out.below G1.out.b)
            have HW1 := Lib.hid hW1
            clear hW1
            have NXS := Lib.hid (SKIP.out (by simp [rwSkip, r0]) W1 G1.out)
            go_wp2_with fail
            rw [HW1.out]
            go_roundw
            case rel => exact ⟨k + 1, by go_num, NXS.out⟩
            case measure => simp [intOf]; omega
        · have EB := RI.e8
          have EO := RI.e9
          have EK : rwK router false l k = rwPass router false l := by unfold rwK rwPass; rw [List.take_of_length_le (by omega)]
          have HP := RI.h10
          have BL := Lib.hid RI.bel
          have NWH := Lib.hid RI.nw
          clear RI
          rw [EK] at EB EO HP
          subst EB EO
          have HPH := Lib.hid HP
          clear HP
          cases ho : (rwPass router false l).ok with
          | true =>
            have FIN : Hid (RwPost w router l (.returned (.tuple #[.int .i64 (rwPass router false l).cost, u10, .bool true])) wr) := Lib.hid (RwPost.mk (s := rwPass router false l) (by rw [rwAll, if_pos ho]) ho HPH.out BL.out NWH.out)
            clear ho
            go_wp2_with fail
            first | go_returns | go_ret3
            exact FIN.out
          | false =>
            have NXO : Hid ((1 ≤ 0 + 1 → (rwPass router false l).ok = false) ∧ (2 ≤ 0 + 1 → (rwPass router true l).ok = false)) := Lib.hid (⟨fun _ => ho, fun h => by omega⟩)
            clear ho HPH
            go_wp2_with fail
            go_roundw
            case rel => exact ⟨0 + 1, by go_num, by omega, NXO, BL⟩
            case measure => simp [intOf]
    rcases Nat.lt_or_ge pass 2 with p0 | p2
    · obtain rfl : pass = 1 := by omega
      have F0 := Lib.hid (F.out.1 (by omega))
      have IN0 := Lib.hid (START.out true)
      clear p0 p1 START hp F B
      go_wp2_with fail
      go_loopw [8, 9, 10, 11] (fun b o h i wi => ∃ k : Nat, i = .int .i64 k ∧ RwRel w router true l k b o h wi) (fun _ _ _ i _ => l.length - (intOf i).toNat)
      case atStart => exact ⟨0, rfl, IN0.out⟩
      case round =>
        clear IN0
        obtain ⟨k, rfl, RI⟩ := hrel
        have hk := RI.hk
        by_cases c : k < l.length
        · obtain ⟨b, off, rfl, hb0, hcc⟩ := HC.out (by omega)
          obtain ⟨d0, d1, d2, d3, d4, d5, d6⟩ := hcc k c
          have d0 := bcell RI.bel d0
          have d1 := bcell RI.bel d1
          have d2 := bcell RI.bel d2
          have d3 := bcell RI.bel d3
          have d4 := bcell RI.bel d4
          have d5 := bcell RI.bel d5
          have d6 := bcell RI.bel d6
          have SKIP := Lib.hid (fun (h : rwSkip router true (rwK router true l k) l[k] = true) W' (g : Gr wr W') => RI.skip c h g)
          have TAKE := Lib.hid (fun (h : rwSkip router true (rwK router true l k) l[k] = false) W' v' hv (nw : New wr.heap.size v') (g : Below wr.heap.size wr W') => RI.take c h (w2 := W') (v2 := v') hv nw g)
          have LN : Hid ((rwK router true l k).hops.length + l[k].hops.length ≤ hopSum l) := Lib.hid (rwK_room router true l k c)
          have HX : Hid (HopsAt wr (.slice l[k].ha l[k].hn l[k].hc) l[k].hops) := Lib.hid ((HH.out _ (List.getElem_mem c)).below RI.bel)
          have HB : Hid (HopsAt wr u10 (rwK router true l k).hops) := Lib.hid RI.h10
          obtain ⟨e8, e9⟩ : u8 = .int .i64 (rwK router true l k).cost ∧ u9 = .bool (rwK router true l k).ok := ⟨RI.e8, RI.e9⟩
          clear RI hcc
          generalize rwK router true l k = s at *
          obtain ⟨bc, bo, bh⟩ := s
          simp only at e8 e9
          subst e8 e9
          generalize l[k] = x at *
          obtain ⟨xr, xa, xi, xb, xbd, xc, xha, xhn, xhc, xhops⟩ := x
          simp only at d0 d1 d2 d3 d4 d5 d6 LN HX HB
          by_cases r0 : xr = router
          · have r0' := r0.symm
            subst r0'
            obtain ⟨W1, hW1⟩ : ∃ W1, wr.alloc (.cells #[.int .u32 router, .int .u32 xa, .bool xi, .bool xb, .bool xbd, .int .i64 xc, .slice xha xhn xhc] 61) = W1 := ⟨_, rfl⟩
            have G1 : Hid (Gr wr W1) := Lib.hid (by rw [← hW1]; exact (Gr.refl _).alloc _)
            have HX1 := Lib.hid (HX.out.below G1.out.b)
            have HB1 := Lib.hid (HB.out.below G1.out.b)
            have HW1 := Lib.hid hW1
            clear hW1
            cases xbd with
            | false =>
              have NXS := Lib.hid (SKIP.out (by simp [rwSkip]) W1 G1.out)
              go_wp2_with fail
              rw [HW1.out]
              go_roundw
              case rel => exact ⟨k + 1, by go_num, NXS.out⟩
              case measure => simp [intOf]; omega
            | true =>
              cases xi with
              | false =>
                have NXS := Lib.hid (SKIP.out (by simp [rwSkip]) W1 G1.out)
                go_wp2_with fail
                rw [HW1.out]
                go_roundw
                case rel => exact ⟨k + 1, by go_num, NXS.out⟩
                case measure => simp [intOf]; omega
              | true =>
                cases bo with
                | false =>
                  have ENW : Hid ((if rwNew ⟨bc, false, bh⟩ ⟨router, xa, true, xb, true, xc, xha, xhn, xhc, xhops⟩ then [] else bh) = []) := Lib.hid (by simp [rwNew])
                  have TK2 := Lib.hid (TAKE.out (by simp [rwSkip]))
                  have MC := Lib.hid (rmerge_calls W1 (.slice none 0 0) (.slice xha xhn xhc) [] xhops (hops_nil _) HX1.out (hop_room3 (Nat.le_trans (Nat.le_add_left _ _) LN.out) HN.out))
                  go_wp2_with fail
                  rw [HW1.out]
                  refine MC.out.mono ?_
                  rintro e w2 ⟨v2, rfl, O2, B2⟩
                  have NXT := Lib.hid (TK2.out w2 v2 (by rw [ENW.out]; exact O2.at) (O2.new G1.out.b.size) (G1.out.b.trans (B2.mono G1.out.b.size)))
                  clear O2 B2 MC TK2
                  go_wp2_with fail
                  go_roundw
                  case rel => first | exact ⟨k + 1, by go_num, NXT.out⟩ | ((repeat apply Exists.intro); exact ⟨⟨k + 1, by go_num, NXT.out⟩, rfl⟩)
                  case measure => simp [intOf]; omega
                | true =>
                  by_cases g1 : bc < xc
                  · have g2 : decide (bc < xc) = true := by simpa using g1
                    have NXS := Lib.hid (SKIP.out (by simp [rwSkip, g1]) W1 G1.out)
                    go_wp2_with fail
                    rw [HW1.out]
                    go_roundw
                    case rel => exact ⟨k + 1, by go_num, NXS.out⟩
                    case measure => simp [intOf]; omega
                  · have g2 : decide (bc < xc) = false := by simpa using g1
                    by_cases g3 : xc < bc
                    · have g4 : decide (xc < bc) = true := by simpa using g3
                      have ENW : Hid ((if rwNew ⟨bc, true, bh⟩ ⟨router, xa, true, xb, true, xc, xha, xhn, xhc, xhops⟩ then [] else bh) = []) := Lib.hid (by simp [rwNew, g3])
                      have TK2 := Lib.hid (TAKE.out (by simp [rwSkip, g1]))
                      have MC := Lib.hid (rmerge_calls W1 (.slice none 0 0) (.slice xha xhn xhc) [] xhops (hops_nil _) HX1.out (hop_room3 (Nat.le_trans (Nat.le_add_left _ _) LN.out) HN.out))
                      go_wp2_with fail
                      rw [HW1.out]
                      refine MC.out.mono ?_
                      rintro e w2 ⟨v2, rfl, O2, B2⟩
                      have NXT := Lib.hid (TK2.out w2 v2 (by rw [ENW.out]; exact O2.at) (O2.new G1.out.b.size) (G1.out.b.trans (B2.mono G1.out.b.size)))
                      clear O2 B2 MC TK2
                      go_wp2_with fail
                      go_roundw
                      case rel => first | exact ⟨k + 1, by go_num, NXT.out⟩ | ((repeat apply Exists.intro); exact ⟨⟨k + 1, by go_num, NXT.out⟩, rfl⟩)
                      case measure => simp [intOf]; omega
                    · have g4 : decide (xc < bc) = false := by simpa using g3
                      have ENW : Hid ((if rwNew ⟨bc, true, bh⟩ ⟨router, xa, true, xb, true, xc, xha, xhn, xhc, xhops⟩ then [] else bh) = bh) := Lib.hid (by simp [rwNew, g3])
                      have TK2 := Lib.hid (TAKE.out (by simp [rwSkip, g1]))
                      have MC := Lib.hid (rmerge_calls W1 u10 (.slice xha xhn xhc) bh xhops HB1.out HX1.out (hop_room2 LN.out HN.out))
                      go_wp2_with fail
                      rw [HW1.out]
                      refine MC.out.mono ?_
                      rintro e w2 ⟨v2, rfl, O2, B2⟩
                      have NXT := Lib.hid (TK2.out w2 v2 (by rw [ENW.out]; exact O2.at) (O2.new G1.out.b.size) (G1.out.b.trans (B2.mono G1.out.b.size)))
                      clear O2 B2 MC TK2
                      go_wp2_with fail
                      go_roundw
                      case rel => first | exact ⟨k + 1, by go_num, NXT.out⟩ | ((repeat apply Exists.intro); exact ⟨⟨k + 1, by go_num, NXT.out⟩, rfl⟩)
                      case measure => simp [intOf]; omega
          · have z1 : (xr != router) = true := by simpa using r0
            obtain ⟨W1, hW1⟩ : ∃ W1, wr.alloc (.cells #[.int .u32 xr, .int .u32 xa, .bool xi, .bool xb, .bool xbd, .int .i64 xc, .slice xha xhn xhc] 61) = W1 := ⟨_, rfl⟩
            have G1 : Hid (Gr wr W1) := Lib.hid (by rw [← hW1]; exact (Gr.refl _).alloc _)
            have HX1 := Lib.hid (HX.out.below G1.out.b)
            have HB1 := Lib.hid (HB.out.below G1.out.b)
            have HW1 := Lib.hid hW1
            clear hW1
            have NXS := Lib.hid (SKIP.out (by simp [rwSkip, r0]) W1 G1.out)
            go_wp2_with fail
            rw [HW1.out]
            go_roundw
            case rel => exact ⟨k + 1, by go_num, NXS.out⟩
            case measure => simp [intOf]; omega
        · have EB := RI.e8
          have EO := RI.e9
          have EK : rwK router true l k = rwPass router true l := by unfold rwK rwPass; rw [List.take_of_length_le (by omega)]
          have HP := RI.h10
          have BL := Lib.hid RI.bel
          have NWH := Lib.hid RI.nw
          clear RI
          rw [EK] at EB EO HP
          subst EB EO
          have HPH := Lib.hid HP
          clear HP
          cases ho : (rwPass router true l).ok with
          | true =>
            have FIN : Hid (RwPost w router l (.returned (.tuple #[.int .i64 (rwPass router true l).cost, u10, .bool true])) wr) := Lib.hid (RwPost.mk (s := rwPass router true l) (by rw [rwAll, if_neg (by simp [F0.out]), if_pos ho]) ho HPH.out BL.out NWH.out)
            clear ho
            go_wp2_with fail
            first | go_returns | go_ret3
            exact FIN.out
          | false =>
            have NXO : Hid ((1 ≤ 1 + 1 → (rwPass router false l).ok = false) ∧ (2 ≤ 1 + 1 → (rwPass router true l).ok = false)) := Lib.hid (⟨fun _ => F0.out, fun _ => ho⟩)
            clear ho HPH
            go_wp2_with fail
            go_roundw
            case rel => exact ⟨1 + 1, by go_num, by omega, NXO, BL⟩
            case measure => simp [intOf]
    · obtain rfl : pass = 2 := by omega
      have FIN : Hid (RwPost w router l (.returned (.tuple #[.int .i64 0, .slice none 0 0, .bool false])) wr) := Lib.hid ⟨_, ⟨0, false, []⟩, rfl, ⟨by rw [rwAll, if_neg (by simp [F.out.1]), if_neg (by simp [F.out.2])], hops_nil _⟩, B.out, fun _ _ _ _ h => by cases h⟩
      clear p1 p2 START hp F B
      go_wp2_with fail
      go_ret3
      exact FIN.out

end Go.Proofs.YtiemmejpaahbpaaGreat
