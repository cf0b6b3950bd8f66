/-
  slices.SortStableFunc over advertisements that lie in order already: nothing changes.
-/
import Derived.Test.YtiemmejpaahbpaaGreatBks
import Derived.Test.YtiemmejpaahbpaaGreatRts
import Derived.IntWalk
import Derived.WalkArith
namespace Go.Proofs.YtiemmejpaahbpaaGreat
open Go.RowKit

def lsaAt (l : List Lsa) (k : Nat) : Lsa := l.getD k default
theorem lsaAt_eq {l : List Lsa} {k : Nat} (c : k < l.length) : lsaAt l k = l[k] := by
  rw [lsaAt, List.getD_eq_getElem?_getD, List.getElem?_eq_getElem c]; rfl

/-- no advertisement is less than one before it -/
def KAsc (l : List Lsa) : Prop := ∀ i j, i < j → j < l.length → 0 ≤ kkCmp (lkOf (lsaAt l j)) (lkOf (lsaAt l i))

theorem LsaCells.grown {w : World} {b o : Nat} {x : Lsa} (h : LsaCells w b o x) : ∀ n os, LsaCells (Go.Sort.grow (w.drewN n) os) b o x := by
  intro n os
  have e := fun k (u : Value) (h : w.cell? ⟨b, k, none⟩ = some u) => cell_grown (n := n) (os := os) (World.block_lt_of_cell? _ _ h) h
  obtain ⟨⟨h0, h1, h2, h3, h4⟩, ⟨h5, h6, h7, h8, h9⟩, ⟨h10, h11, h12, h13, h14⟩⟩ := h
  exact ⟨⟨e _ _ h0, e _ _ h1, e _ _ h2, e _ _ h3, e _ _ h4⟩, ⟨e _ _ h5, e _ _ h6, e _ _ h7, e _ _ h8, e _ _ h9⟩, ⟨e _ _ h10, e _ _ h11, e _ _ h12, e _ _ h13, e _ _ h14⟩⟩

/-- the advertisements lie at block b -/
def LAt (W : World) (b off : Nat) (l : List Lsa) : Prop := b < W.heap.size ∧ ∀ i, i < l.length → LsaCells W b (off + i * 15) (lsaAt l i)
theorem LAt.gr {W W' : World} {b off : Nat} {l : List Lsa} (h : LAt W b off l) (g : Gr W W') : LAt W' b off l :=
  ⟨Nat.lt_of_lt_of_le h.1 g.b.size, fun i hi => (h.2 i hi).below g.b h.1⟩

def NilPost (W : World) (e : Ending) (w' : World) : Prop := e = .returned (.tuple #[]) ∧ Gr W w'

set_option maxHeartbeats 4000000 in
set_option maxRecDepth 100000 in
theorem ins_calls (W : World) (b off cap : Nat) (l : List Lsa) (h : LAt W b off l) (S : KAsc l) (hl : l.length ≤ 1000000) (a e : Nat) (ha : a ≤ e) (he : e ≤ l.length) :
    Calls Tryz.prog 97 #[.slice (some ⟨b, off, none⟩) l.length cap, .int .i64 a, .int .i64 e, .func (.func 37) #[] #[]] W (NilPost W) := by
  have mixed : Tryz.prog.follows .mixedOrders = true := by kernel_rfl
  have H := Lib.hid (fun W' (g : Gr W W') => (h.gr g).2)
  have HS := Lib.hid S
  clear h S
  go_enter Tryz.func97, Tryz.ntmps97
  go_wp2_with fail
  go_loopw [8] (fun ix wi => ∃ k : Nat, ix = .int .i64 (k + 1 : Nat) ∧ a ≤ k ∧ k ≤ e ∧ Hid (Gr W wi)) (fun ix _ => e + 1 - (intOf ix).toNat)
  case atStart => exact ⟨a, by go_num, Nat.le_refl _, ha, Lib.hid (Gr.refl _)⟩
  case round =>
    obtain ⟨k, rfl, hk, hke, G⟩ := hrel
    by_cases c : k + 1 < e
    · have c1 : ((k + 1 : Nat) : Int) < (e : Int) := by omega
      have GG := G.out
      go_wp2_with fail
      go_loopw [9] (fun ix wi => ix = .int .i64 (k + 1 : Nat) ∧ Hid (Gr W wi)) (fun ix _ => 0)
      case atStart => exact ⟨rfl, G⟩
      case round =>
        obtain ⟨rfl, G2⟩ := hrel
        have GG2 := G2.out
        have q0 : (a : Int) < (k : Int) + 1 := by omega
        have q1 : (0 : Int) ≤ (k : Int) + 1 := by omega
        have q2 : (k : Int) + 1 < (l.length : Int) := by omega
        have q3 : ((k : Int) + 1).toNat = k + 1 := by omega
        have q4 : (k : Int) + 1 - 1 = (k : Int) := by omega
        have q5 : (0 : Int) ≤ (k : Int) := by omega
        have q6 : (k : Int) < (l.length : Int) := by omega
        have q7 : ((k : Int)).toNat = k := by omega
        have KX := Lib.hid (LsaCells.grown (H.out wr (by assumption) _ (show k + 1 < l.length by omega)))
        have KY := Lib.hid (LsaCells.grown (H.out wr (by assumption) _ (show k < l.length by omega)))
        have LC := Lib.hid (fun W' => (border_calls (lsaAt l (k + 1)) (lsaAt l (k)) W').mono fun _ _ h => (⟨h.1, h.2.grow⟩ : _ ∧ ∃ q os, _ = Go.Sort.grow (World.drewN W' q) os))
        have CV := HS.out k (k + 1) (by omega) (by omega)
        generalize kkCmp (lkOf (lsaAt l (k + 1))) (lkOf (lsaAt l (k))) = cv at LC CV
        have g1 : decide (cv < 0) = false := by simp only [decide_eq_false_iff_not]; omega
        generalize lsaAt l (k + 1) = x at *
        generalize lsaAt l (k) = y at *
        obtain ⟨xtyp, xid, xlen, xrouter, xseq, xage, xsum, xborder, xboundary, xla, xln, xlc, xaa, xan, xac, xcost, xsecond, xfwd, xtag⟩ := x
        obtain ⟨ytyp, yid, ylen, yrouter, yseq, yage, ysum, yborder, yboundary, yla, yln, ylc, yaa, yan, yac, ycost, ysecond, yfwd, ytag⟩ := y
        simp only [lsaE] at LC
        have y0 := fun n os => (KX.out n os).1.1
        have y1 := fun n os => (KX.out n os).1.2.1
        have y2 := fun n os => (KX.out n os).1.2.2.1
        have y3 := fun n os => (KX.out n os).1.2.2.2.1
        have y4 := fun n os => (KX.out n os).1.2.2.2.2
        have y5 := fun n os => (KX.out n os).2.1.1
        have y6 := fun n os => (KX.out n os).2.1.2.1
        have y7 := fun n os => (KX.out n os).2.1.2.2.1
        have y8 := fun n os => (KX.out n os).2.1.2.2.2.1
        have y9 := fun n os => (KX.out n os).2.1.2.2.2.2
        have y10 := fun n os => (KX.out n os).2.2.1
        have y11 := fun n os => (KX.out n os).2.2.2.1
        have y12 := fun n os => (KX.out n os).2.2.2.2.1
        have y13 := fun n os => (KX.out n os).2.2.2.2.2.1
        have y14 := fun n os => (KX.out n os).2.2.2.2.2.2
        have z0 := fun n os => (KY.out n os).1.1
        have z1 := fun n os => (KY.out n os).1.2.1
        have z2 := fun n os => (KY.out n os).1.2.2.1
        have z3 := fun n os => (KY.out n os).1.2.2.2.1
        have z4 := fun n os => (KY.out n os).1.2.2.2.2
        have z5 := fun n os => (KY.out n os).2.1.1
        have z6 := fun n os => (KY.out n os).2.1.2.1
        have z7 := fun n os => (KY.out n os).2.1.2.2.1
        have z8 := fun n os => (KY.out n os).2.1.2.2.2.1
        have z9 := fun n os => (KY.out n os).2.1.2.2.2.2
        have z10 := fun n os => (KY.out n os).2.2.1
        have z11 := fun n os => (KY.out n os).2.2.2.1
        have z12 := fun n os => (KY.out n os).2.2.2.2.1
        have z13 := fun n os => (KY.out n os).2.2.2.2.2.1
        have z14 := fun n os => (KY.out n os).2.2.2.2.2.2
        simp only at y0 y1 y2 y3 y4 y5 y6 y7 y8 y9 y10 y11 y12 y13 y14 z0 z1 z2 z3 z4 z5 z6 z7 z8 z9 z10 z11 z12 z13 z14
        clear KX KY CV
        clear GG GG2
        go_wp2_with fail
        refine wp_region_quiet_grown (by assumption) (by kernel_rfl) ?_
        repeat (go_big_quiet_step ((go_at_call 37; with_reducible exact Calls.grown_of (LC.out _))))
        refine wpQuiet_nil ?_
        intro _ hw'
        obtain ⟨⟨nq, osq⟩, hw''⟩ := hw'
        subst hw''

        have G3 := Lib.hid (G2.out.trans (Gr.of_grow (W := wr) nq osq))
        clear y0 y1 y2 y3 y4 y5 y6 y7 y8 y9 y10 y11 y12 y13 y14 z0 z1 z2 z3 z4 z5 z6 z7 z8 z9 z10 z11 z12 z13 z14 LC g1
        clear G2 G
        go_wp2_with fail
        go_roundw
        case rel => exact ⟨k + 1, by go_num, by omega, by omega, G3⟩
        case measure => simp [intOf]; omega
    · go_wp2_with fail
      exact bodyPost_ret (v := .tuple #[]) (by simp [results, Tryz.results97, go_sem]) rfl ⟨rfl, G.out⟩

set_option maxHeartbeats 8000000 in
set_option maxRecDepth 100000 in
theorem sym_one (b off cap : Nat) (l : List Lsa) (S : KAsc l) (hl : l.length ≤ 1000000) (a e : Nat) (he : a + 1 < e) (hel : e ≤ l.length) (W : World) (h : LAt W b off l) :
    Calls Tryz.prog 98 #[.slice (some ⟨b, off, none⟩) l.length cap, .int .i64 a, .int .i64 (a + 1 : Nat), .int .i64 e, .func (.func 37) #[] #[]] W (NilPost W) := by
  have mixed : Tryz.prog.follows .mixedOrders = true := by kernel_rfl
  have H := Lib.hid (fun W' (g : Gr W W') => (h.gr g).2)
  have HS := Lib.hid S
  clear h S
  have r0 : (a : Int) + 1 - (a : Int) = 1 := by omega
  go_enter Tryz.func98, Tryz.ntmps98
  go_wp2_with fail
  go_loopw [10, 11] (fun ix jx wi => ∃ j : Nat, ix = .int .i64 (a + 1 : Nat) ∧ jx = .int .i64 j ∧ a + 1 ≤ j ∧ j ≤ e ∧ Hid (Gr W wi)) (fun _ jx _ => (intOf jx).toNat - a)
  case atStart => exact ⟨e, by go_num, rfl, by omega, Nat.le_refl _, Lib.hid (Gr.refl _)⟩
  case round =>
    obtain ⟨j, rfl, rfl, hj, hje, G⟩ := hrel
    by_cases c : a + 1 < j
    · have c1 : (a : Int) + 1 < (j : Int) := by omega
      have GG := G.out
      obtain ⟨h, hh⟩ : ∃ h, h = (a + 1 + j) / 2 := ⟨_, rfl⟩
      have q0 : ((a : Int) + 1 + (j : Int)) / 2 = (h : Int) := by omega
      have q1 : (0 : Int) ≤ (h : Int) := by omega
      have q2 : (h : Int) < (l.length : Int) := by omega
      have q3 : ((h : Int)).toNat = h := by omega
      have p1 : (0 : Int) ≤ (a : Int) := by omega
      have p2 : (a : Int) < (l.length : Int) := by omega
      have p3 : ((a : Int)).toNat = a := by omega
      have hha : a + 1 ≤ h := by omega
      have hhj : h < j := by omega
      clear hh
      have KX := Lib.hid (LsaCells.grown (H.out wr (by assumption) _ (show h < l.length by omega)))
      have KY := Lib.hid (LsaCells.grown (H.out wr (by assumption) _ (show a < l.length by omega)))
      have LC := Lib.hid (fun W' => (border_calls (lsaAt l (h)) (lsaAt l (a)) W').mono fun _ _ h => (⟨h.1, h.2.grow⟩ : _ ∧ ∃ q os, _ = Go.Sort.grow (World.drewN W' q) os))
      have CV := HS.out a h (by omega) (by omega)
      generalize kkCmp (lkOf (lsaAt l (h))) (lkOf (lsaAt l (a))) = cv at LC CV
      have g1 : decide (cv < 0) = false := by simp only [decide_eq_false_iff_not]; omega
      generalize lsaAt l (h) = x at *
      generalize lsaAt l (a) = y at *
      obtain ⟨xtyp, xid, xlen, xrouter, xseq, xage, xsum, xborder, xboundary, xla, xln, xlc, xaa, xan, xac, xcost, xsecond, xfwd, xtag⟩ := x
      obtain ⟨ytyp, yid, ylen, yrouter, yseq, yage, ysum, yborder, yboundary, yla, yln, ylc, yaa, yan, yac, ycost, ysecond, yfwd, ytag⟩ := y
      simp only [lsaE] at LC
      have y0 := fun n os => (KX.out n os).1.1
      have y1 := fun n os => (KX.out n os).1.2.1
      have y2 := fun n os => (KX.out n os).1.2.2.1
      have y3 := fun n os => (KX.out n os).1.2.2.2.1
      have y4 := fun n os => (KX.out n os).1.2.2.2.2
      have y5 := fun n os => (KX.out n os).2.1.1
      have y6 := fun n os => (KX.out n os).2.1.2.1
      have y7 := fun n os => (KX.out n os).2.1.2.2.1
      have y8 := fun n os => (KX.out n os).2.1.2.2.2.1
      have y9 := fun n os => (KX.out n os).2.1.2.2.2.2
      have y10 := fun n os => (KX.out n os).2.2.1
      have y11 := fun n os => (KX.out n os).2.2.2.1
      have y12 := fun n os => (KX.out n os).2.2.2.2.1
      have y13 := fun n os => (KX.out n os).2.2.2.2.2.1
      have y14 := fun n os => (KX.out n os).2.2.2.2.2.2
      have z0 := fun n os => (KY.out n os).1.1
      have z1 := fun n os => (KY.out n os).1.2.1
      have z2 := fun n os => (KY.out n os).1.2.2.1
      have z3 := fun n os => (KY.out n os).1.2.2.2.1
      have z4 := fun n os => (KY.out n os).1.2.2.2.2
      have z5 := fun n os => (KY.out n os).2.1.1
      have z6 := fun n os => (KY.out n os).2.1.2.1
      have z7 := fun n os => (KY.out n os).2.1.2.2.1
      have z8 := fun n os => (KY.out n os).2.1.2.2.2.1
      have z9 := fun n os => (KY.out n os).2.1.2.2.2.2
      have z10 := fun n os => (KY.out n os).2.2.1
      have z11 := fun n os => (KY.out n os).2.2.2.1
      have z12 := fun n os => (KY.out n os).2.2.2.2.1
      have z13 := fun n os => (KY.out n os).2.2.2.2.2.1
      have z14 := fun n os => (KY.out n os).2.2.2.2.2.2
      simp only at y0 y1 y2 y3 y4 y5 y6 y7 y8 y9 y10 y11 y12 y13 y14 z0 z1 z2 z3 z4 z5 z6 z7 z8 z9 z10 z11 z12 z13 z14
      clear KX KY CV
      clear GG
      go_wp2_with fail
      refine wp_region_quiet_grown (by assumption) (by kernel_rfl) ?_
      repeat (go_big_quiet_step ((go_at_call 37; with_reducible exact Calls.grown_of (LC.out _))))
      refine wpQuiet_nil ?_
      intro _ hw'
      obtain ⟨⟨nq, osq⟩, hw''⟩ := hw'
      subst hw''

      have G3 := Lib.hid (G.out.trans (Gr.of_grow (W := wr) nq osq))
      clear y0 y1 y2 y3 y4 y5 y6 y7 y8 y9 y10 y11 y12 y13 y14 z0 z1 z2 z3 z4 z5 z6 z7 z8 z9 z10 z11 z12 z13 z14 LC g1
      clear G
      go_wp2_with fail
      go_roundw
      case rel => exact ⟨h, by go_num, by go_num, hha, by omega, G3⟩
      case measure => simp [intOf]; omega
    · have ej : j = a + 1 := by omega
      subst ej
      have r1 : (a : Int) + 1 - 1 = (a : Int) := by omega
      go_wp2_with fail
      go_loopw [13] (fun kx wi => kx = .int .i64 a ∧ Hid (Gr W wi)) (fun _ _ => 0)
      case atStart => exact ⟨rfl, G⟩
      case round =>
        obtain ⟨rfl, G2⟩ := hrel
        go_wp2_with fail
        exact bodyPost_ret (v := .tuple #[]) (by simp [results, Tryz.results98, go_sem]) rfl ⟨rfl, G2.out⟩

set_option maxHeartbeats 8000000 in
set_option maxRecDepth 100000 in
theorem sym_last (b off cap : Nat) (l : List Lsa) (S : KAsc l) (hl : l.length ≤ 1000000) (a m : Nat) (ham : a + 1 < m) (hel : m + 1 ≤ l.length) (W : World) (h : LAt W b off l) :
    Calls Tryz.prog 98 #[.slice (some ⟨b, off, none⟩) l.length cap, .int .i64 a, .int .i64 m, .int .i64 (m + 1 : Nat), .func (.func 37) #[] #[]] W (NilPost W) := by
  have mixed : Tryz.prog.follows .mixedOrders = true := by kernel_rfl
  have H := Lib.hid (fun W' (g : Gr W W') => (h.gr g).2)
  have HS := Lib.hid S
  clear h S
  have r0 : ((m : Int) - (a : Int) == 1) = false := by simp; omega
  have r1 : (m : Int) + 1 - (m : Int) = 1 := by omega
  go_enter Tryz.func98, Tryz.ntmps98
  go_wp2_with fail
  go_loopw [14, 15] (fun ix jx wi => ∃ i : Nat, ix = .int .i64 i ∧ jx = .int .i64 m ∧ a ≤ i ∧ i ≤ m ∧ Hid (Gr W wi)) (fun ix _ _ => m - (intOf ix).toNat)
  case atStart => exact ⟨a, rfl, rfl, Nat.le_refl _, by omega, Lib.hid (Gr.refl _)⟩
  case round =>
    obtain ⟨i, rfl, rfl, hi, him, G⟩ := hrel
    by_cases c : i < m
    · have c1 : (i : Int) < (m : Int) := by omega
      have GG := G.out
      obtain ⟨h, hh⟩ : ∃ h, h = (i + m) / 2 := ⟨_, rfl⟩
      have q0 : ((i : Int) + (m : Int)) / 2 = (h : Int) := by omega
      have q1 : (0 : Int) ≤ (h : Int) := by omega
      have q2 : (h : Int) < (l.length : Int) := by omega
      have q3 : ((h : Int)).toNat = h := by omega
      have p1 : (0 : Int) ≤ (m : Int) := by omega
      have p2 : (m : Int) < (l.length : Int) := by omega
      have p3 : ((m : Int)).toNat = m := by omega
      have hhi : i ≤ h := by omega
      have hhm : h < m := by omega
      clear hh
      have KX := Lib.hid (LsaCells.grown (H.out wr (by assumption) _ (show m < l.length by omega)))
      have KY := Lib.hid (LsaCells.grown (H.out wr (by assumption) _ (show h < l.length by omega)))
      have LC := Lib.hid (fun W' => (border_calls (lsaAt l (m)) (lsaAt l (h)) W').mono fun _ _ h => (⟨h.1, h.2.grow⟩ : _ ∧ ∃ q os, _ = Go.Sort.grow (World.drewN W' q) os))
      have CV := HS.out h m (by omega) (by omega)
      generalize kkCmp (lkOf (lsaAt l (m))) (lkOf (lsaAt l (h))) = cv at LC CV
      have g1 : decide (cv < 0) = false := by simp only [decide_eq_false_iff_not]; omega
      generalize lsaAt l (m) = x at *
      generalize lsaAt l (h) = y at *
      obtain ⟨xtyp, xid, xlen, xrouter, xseq, xage, xsum, xborder, xboundary, xla, xln, xlc, xaa, xan, xac, xcost, xsecond, xfwd, xtag⟩ := x
      obtain ⟨ytyp, yid, ylen, yrouter, yseq, yage, ysum, yborder, yboundary, yla, yln, ylc, yaa, yan, yac, ycost, ysecond, yfwd, ytag⟩ := y
      simp only [lsaE] at LC
      have y0 := fun n os => (KX.out n os).1.1
      have y1 := fun n os => (KX.out n os).1.2.1
      have y2 := fun n os => (KX.out n os).1.2.2.1
      have y3 := fun n os => (KX.out n os).1.2.2.2.1
      have y4 := fun n os => (KX.out n os).1.2.2.2.2
      have y5 := fun n os => (KX.out n os).2.1.1
      have y6 := fun n os => (KX.out n os).2.1.2.1
      have y7 := fun n os => (KX.out n os).2.1.2.2.1
      have y8 := fun n os => (KX.out n os).2.1.2.2.2.1
      have y9 := fun n os => (KX.out n os).2.1.2.2.2.2
      have y10 := fun n os => (KX.out n os).2.2.1
      have y11 := fun n os => (KX.out n os).2.2.2.1
      have y12 := fun n os => (KX.out n os).2.2.2.2.1
      have y13 := fun n os => (KX.out n os).2.2.2.2.2.1
      have y14 := fun n os => (KX.out n os).2.2.2.2.2.2
      have z0 := fun n os => (KY.out n os).1.1
      have z1 := fun n os => (KY.out n os).1.2.1
      have z2 := fun n os => (KY.out n os).1.2.2.1
      have z3 := fun n os => (KY.out n os).1.2.2.2.1
      have z4 := fun n os => (KY.out n os).1.2.2.2.2
      have z5 := fun n os => (KY.out n os).2.1.1
      have z6 := fun n os => (KY.out n os).2.1.2.1
      have z7 := fun n os => (KY.out n os).2.1.2.2.1
      have z8 := fun n os => (KY.out n os).2.1.2.2.2.1
      have z9 := fun n os => (KY.out n os).2.1.2.2.2.2
      have z10 := fun n os => (KY.out n os).2.2.1
      have z11 := fun n os => (KY.out n os).2.2.2.1
      have z12 := fun n os => (KY.out n os).2.2.2.2.1
      have z13 := fun n os => (KY.out n os).2.2.2.2.2.1
      have z14 := fun n os => (KY.out n os).2.2.2.2.2.2
      simp only at y0 y1 y2 y3 y4 y5 y6 y7 y8 y9 y10 y11 y12 y13 y14 z0 z1 z2 z3 z4 z5 z6 z7 z8 z9 z10 z11 z12 z13 z14
      clear KX KY CV
      clear GG
      go_wp2_with fail
      refine wp_region_quiet_grown (by assumption) (by kernel_rfl) ?_
      repeat (go_big_quiet_step ((go_at_call 37; with_reducible exact Calls.grown_of (LC.out _))))
      refine wpQuiet_nil ?_
      intro _ hw'
      obtain ⟨⟨nq, osq⟩, hw''⟩ := hw'
      subst hw''

      have G3 := Lib.hid (G.out.trans (Gr.of_grow (W := wr) nq osq))
      clear y0 y1 y2 y3 y4 y5 y6 y7 y8 y9 y10 y11 y12 y13 y14 z0 z1 z2 z3 z4 z5 z6 z7 z8 z9 z10 z11 z12 z13 z14 LC g1
      clear G
      go_wp2_with fail
      go_roundw
      case rel => exact ⟨h + 1, by go_num, by go_num, by omega, by omega, G3⟩
      case measure => simp [intOf]; omega
    · have ej : i = m := by omega
      subst ej
      go_wp2_with fail
      go_loopw [17] (fun kx wi => kx = .int .i64 i ∧ Hid (Gr W wi)) (fun _ _ => 0)
      case atStart => exact ⟨rfl, G⟩
      case round =>
        obtain ⟨rfl, G2⟩ := hrel
        go_wp2_with fail
        exact bodyPost_ret (v := .tuple #[]) (by simp [results, Tryz.results98, go_sem]) rfl ⟨rfl, G2.out⟩

def SymAll (b off cap : Nat) (l : List Lsa) (N : Nat) : Prop := ∀ a m e : Nat, e - a ≤ N → a < m → m < e → e ≤ l.length → ∀ W, LAt W b off l →
    Calls Tryz.prog 98 #[.slice (some ⟨b, off, none⟩) l.length cap, .int .i64 a, .int .i64 m, .int .i64 e, .func (.func 37) #[] #[]] W (NilPost W)

set_option maxHeartbeats 8000000 in
set_option maxRecDepth 100000 in
theorem sym_right (b off cap : Nat) (l : List Lsa) (S : KAsc l) (hl : l.length ≤ 1000000) (N : Nat) (IH : SymAll b off cap l N) (a m e d : Nat) (hN : e - a ≤ N + 1) (ham : a + 1 < m) (hme : m + 1 < e) (hel : e ≤ l.length) (hd : (a + e) / 2 = d) (hdm : d < m) (W : World) (h : LAt W b off l) :
    Calls Tryz.prog 98 #[.slice (some ⟨b, off, none⟩) l.length cap, .int .i64 a, .int .i64 m, .int .i64 e, .func (.func 37) #[] #[]] W (NilPost W) := by
  have mixed : Tryz.prog.follows .mixedOrders = true := by kernel_rfl
  have H := Lib.hid (fun W' (g : Gr W W') => (h.gr g).2)
  have HS := Lib.hid S
  have REC := Lib.hid (fun W' (g : Gr W W') => IH d m e (by omega) hdm (by omega) hel W' (h.gr g))
  clear h S IH
  have r0 : ((m : Int) - (a : Int) == 1) = false := by simp; omega
  have r1 : ((e : Int) - (m : Int) == 1) = false := by simp; omega
  have r2 : ((a : Int) + (e : Int)) / 2 = (d : Int) := by omega
  have r3 : (d : Int) < (m : Int) := by omega
  obtain ⟨s0, hs0⟩ : ∃ s0, s0 = d + m - e := ⟨_, rfl⟩
  have r4 : (d : Int) + (m : Int) - (e : Int) = (s0 : Int) := by omega
  have hs1 : d + m = s0 + e := by omega
  clear hs0
  go_enter Tryz.func98, Tryz.ntmps98
  go_wp2_with fail
  go_loopw [20, 21] (fun sx rx wi => ∃ s : Nat, sx = .int .i64 s ∧ rx = .int .i64 d ∧ s0 ≤ s ∧ s ≤ d ∧ Hid (Gr W wi)) (fun sx _ _ => d - (intOf sx).toNat)
  case atStart => exact ⟨s0, rfl, rfl, Nat.le_refl _, by omega, Lib.hid (Gr.refl _)⟩
  case round =>
    obtain ⟨s, rfl, rfl, hs, hsd, G⟩ := hrel
    by_cases c : s < d
    · have c1 : (s : Int) < (d : Int) := by omega
      have GG := G.out
      obtain ⟨h, hh⟩ : ∃ h, h = (s + d) / 2 := ⟨_, rfl⟩
      obtain ⟨g, hg⟩ : ∃ g, g = d + m - 1 - h := ⟨_, rfl⟩
      have q0 : ((s : Int) + (d : Int)) / 2 = (h : Int) := by omega
      have q1 : (0 : Int) ≤ (h : Int) := by omega
      have q2 : (h : Int) < (l.length : Int) := by omega
      have q3 : ((h : Int)).toNat = h := by omega
      have p0 : (d : Int) + (m : Int) - 1 - (h : Int) = (g : Int) := by omega
      have p1 : (0 : Int) ≤ (g : Int) := by omega
      have p2 : (g : Int) < (l.length : Int) := by omega
      have p3 : ((g : Int)).toNat = g := by omega
      have hhs : s ≤ h := by omega
      have hhd : h < d := by omega
      have hgh : h < g := by omega
      have hgl : g < l.length := by omega
      clear hh hg
      have KX := Lib.hid (LsaCells.grown (H.out wr (by assumption) _ hgl))
      have KY := Lib.hid (LsaCells.grown (H.out wr (by assumption) _ (show h < l.length by omega)))
      have LC := Lib.hid (fun W' => (border_calls (lsaAt l (g)) (lsaAt l (h)) W').mono fun _ _ h => (⟨h.1, h.2.grow⟩ : _ ∧ ∃ q os, _ = Go.Sort.grow (World.drewN W' q) os))
      have CV := HS.out h g hgh hgl
      generalize kkCmp (lkOf (lsaAt l (g))) (lkOf (lsaAt l (h))) = cv at LC CV
      have g1 : decide (cv < 0) = false := by simp only [decide_eq_false_iff_not]; omega
      generalize lsaAt l (g) = x at *
      generalize lsaAt l (h) = y at *
      obtain ⟨xtyp, xid, xlen, xrouter, xseq, xage, xsum, xborder, xboundary, xla, xln, xlc, xaa, xan, xac, xcost, xsecond, xfwd, xtag⟩ := x
      obtain ⟨ytyp, yid, ylen, yrouter, yseq, yage, ysum, yborder, yboundary, yla, yln, ylc, yaa, yan, yac, ycost, ysecond, yfwd, ytag⟩ := y
      simp only [lsaE] at LC
      have y0 := fun n os => (KX.out n os).1.1
      have y1 := fun n os => (KX.out n os).1.2.1
      have y2 := fun n os => (KX.out n os).1.2.2.1
      have y3 := fun n os => (KX.out n os).1.2.2.2.1
      have y4 := fun n os => (KX.out n os).1.2.2.2.2
      have y5 := fun n os => (KX.out n os).2.1.1
      have y6 := fun n os => (KX.out n os).2.1.2.1
      have y7 := fun n os => (KX.out n os).2.1.2.2.1
      have y8 := fun n os => (KX.out n os).2.1.2.2.2.1
      have y9 := fun n os => (KX.out n os).2.1.2.2.2.2
      have y10 := fun n os => (KX.out n os).2.2.1
      have y11 := fun n os => (KX.out n os).2.2.2.1
      have y12 := fun n os => (KX.out n os).2.2.2.2.1
      have y13 := fun n os => (KX.out n os).2.2.2.2.2.1
      have y14 := fun n os => (KX.out n os).2.2.2.2.2.2
      have z0 := fun n os => (KY.out n os).1.1
      have z1 := fun n os => (KY.out n os).1.2.1
      have z2 := fun n os => (KY.out n os).1.2.2.1
      have z3 := fun n os => (KY.out n os).1.2.2.2.1
      have z4 := fun n os => (KY.out n os).1.2.2.2.2
      have z5 := fun n os => (KY.out n os).2.1.1
      have z6 := fun n os => (KY.out n os).2.1.2.1
      have z7 := fun n os => (KY.out n os).2.1.2.2.1
      have z8 := fun n os => (KY.out n os).2.1.2.2.2.1
      have z9 := fun n os => (KY.out n os).2.1.2.2.2.2
      have z10 := fun n os => (KY.out n os).2.2.1
      have z11 := fun n os => (KY.out n os).2.2.2.1
      have z12 := fun n os => (KY.out n os).2.2.2.2.1
      have z13 := fun n os => (KY.out n os).2.2.2.2.2.1
      have z14 := fun n os => (KY.out n os).2.2.2.2.2.2
      simp only at y0 y1 y2 y3 y4 y5 y6 y7 y8 y9 y10 y11 y12 y13 y14 z0 z1 z2 z3 z4 z5 z6 z7 z8 z9 z10 z11 z12 z13 z14
      clear KX KY CV
      clear GG
      go_wp2_with fail
      refine wp_region_quiet_grown (by assumption) (by kernel_rfl) ?_
      repeat (go_big_quiet_step ((go_at_call 37; with_reducible exact Calls.grown_of (LC.out _))))
      refine wpQuiet_nil ?_
      intro _ hw'
      obtain ⟨⟨nq, osq⟩, hw''⟩ := hw'
      subst hw''

      have G3 := Lib.hid (G.out.trans (Gr.of_grow (W := wr) nq osq))
      clear y0 y1 y2 y3 y4 y5 y6 y7 y8 y9 y10 y11 y12 y13 y14 z0 z1 z2 z3 z4 z5 z6 z7 z8 z9 z10 z11 z12 z13 z14 LC g1
      clear G
      go_wp2_with fail
      go_roundw
      case rel => exact ⟨h + 1, by go_num, by go_num, by omega, by omega, G3⟩
      case measure => simp [intOf]; omega
    · have ej : s = d := by omega
      subst ej
      have r5 : (s : Int) + (m : Int) - (s : Int) = (m : Int) := by omega
      have r6 : (a : Int) < (s : Int) := by omega
      have r7 : (m : Int) < (e : Int) := by omega
      go_wp2_with fail
      refine (REC.out _ G.out).mono ?_
      rintro e w' ⟨rfl, G5⟩
      have FIN := Lib.hid (G.out.trans G5)
      clear G5
      go_wp2_with fail
      exact bodyPost_ret (v := .tuple #[]) (by simp [results, Tryz.results98, go_sem]) rfl ⟨rfl, FIN.out⟩

set_option maxHeartbeats 8000000 in
set_option maxRecDepth 100000 in
theorem sym_left (b off cap : Nat) (l : List Lsa) (S : KAsc l) (hl : l.length ≤ 1000000) (N : Nat) (IH : SymAll b off cap l N) (a m e d : Nat) (hN : e - a ≤ N + 1) (ham : a + 1 < m) (hme : m + 1 < e) (hel : e ≤ l.length) (hd : (a + e) / 2 = d) (hdm : m ≤ d) (W : World) (h : LAt W b off l) :
    Calls Tryz.prog 98 #[.slice (some ⟨b, off, none⟩) l.length cap, .int .i64 a, .int .i64 m, .int .i64 e, .func (.func 37) #[] #[]] W (NilPost W) := by
  have mixed : Tryz.prog.follows .mixedOrders = true := by kernel_rfl
  have H := Lib.hid (fun W' (g : Gr W W') => (h.gr g).2)
  have HS := Lib.hid S
  have REC := Lib.hid (fun (hlt : m < d) W' (g : Gr W W') => IH a m d (by omega) (by omega) hlt (by omega) W' (h.gr g))
  clear h S IH
  have r0 : ((m : Int) - (a : Int) == 1) = false := by simp; omega
  have r1 : ((e : Int) - (m : Int) == 1) = false := by simp; omega
  have r2 : ((a : Int) + (e : Int)) / 2 = (d : Int) := by omega
  have r3 : decide ((d : Int) < (m : Int)) = false := by simp; omega
  go_enter Tryz.func98, Tryz.ntmps98
  go_wp2_with fail
  go_loopw [20, 21] (fun sx rx wi => ∃ s : Nat, sx = .int .i64 s ∧ rx = .int .i64 m ∧ a ≤ s ∧ s ≤ m ∧ Hid (Gr W wi)) (fun sx _ _ => m - (intOf sx).toNat)
  case atStart => exact ⟨a, rfl, rfl, Nat.le_refl _, by omega, Lib.hid (Gr.refl _)⟩
  case round =>
    obtain ⟨s, rfl, rfl, hs, hsd, G⟩ := hrel
    by_cases c : s < m
    · have c1 : (s : Int) < (m : Int) := by omega
      have GG := G.out
      obtain ⟨h, hh⟩ : ∃ h, h = (s + m) / 2 := ⟨_, rfl⟩
      obtain ⟨g, hg⟩ : ∃ g, g = d + m - 1 - h := ⟨_, rfl⟩
      have q0 : ((s : Int) + (m : Int)) / 2 = (h : Int) := by omega
      have q1 : (0 : Int) ≤ (h : Int) := by omega
      have q2 : (h : Int) < (l.length : Int) := by omega
      have q3 : ((h : Int)).toNat = h := by omega
      have p0 : (d : Int) + (m : Int) - 1 - (h : Int) = (g : Int) := by omega
      have p1 : (0 : Int) ≤ (g : Int) := by omega
      have p2 : (g : Int) < (l.length : Int) := by omega
      have p3 : ((g : Int)).toNat = g := by omega
      have hhs : s ≤ h := by omega
      have hhd : h < m := by omega
      have hgh : h < g := by omega
      have hgl : g < l.length := by omega
      clear hh hg
      have KX := Lib.hid (LsaCells.grown (H.out wr (by assumption) _ hgl))
      have KY := Lib.hid (LsaCells.grown (H.out wr (by assumption) _ (show h < l.length by omega)))
      have LC := Lib.hid (fun W' => (border_calls (lsaAt l (g)) (lsaAt l (h)) W').mono fun _ _ h => (⟨h.1, h.2.grow⟩ : _ ∧ ∃ q os, _ = Go.Sort.grow (World.drewN W' q) os))
      have CV := HS.out h g hgh hgl
      generalize kkCmp (lkOf (lsaAt l (g))) (lkOf (lsaAt l (h))) = cv at LC CV
      have g1 : decide (cv < 0) = false := by simp only [decide_eq_false_iff_not]; omega
      generalize lsaAt l (g) = x at *
      generalize lsaAt l (h) = y at *
      obtain ⟨xtyp, xid, xlen, xrouter, xseq, xage, xsum, xborder, xboundary, xla, xln, xlc, xaa, xan, xac, xcost, xsecond, xfwd, xtag⟩ := x
      obtain ⟨ytyp, yid, ylen, yrouter, yseq, yage, ysum, yborder, yboundary, yla, yln, ylc, yaa, yan, yac, ycost, ysecond, yfwd, ytag⟩ := y
      simp only [lsaE] at LC
      have y0 := fun n os => (KX.out n os).1.1
      have y1 := fun n os => (KX.out n os).1.2.1
      have y2 := fun n os => (KX.out n os).1.2.2.1
      have y3 := fun n os => (KX.out n os).1.2.2.2.1
      have y4 := fun n os => (KX.out n os).1.2.2.2.2
      have y5 := fun n os => (KX.out n os).2.1.1
      have y6 := fun n os => (KX.out n os).2.1.2.1
      have y7 := fun n os => (KX.out n os).2.1.2.2.1
      have y8 := fun n os => (KX.out n os).2.1.2.2.2.1
      have y9 := fun n os => (KX.out n os).2.1.2.2.2.2
      have y10 := fun n os => (KX.out n os).2.2.1
      have y11 := fun n os => (KX.out n os).2.2.2.1
      have y12 := fun n os => (KX.out n os).2.2.2.2.1
      have y13 := fun n os => (KX.out n os).2.2.2.2.2.1
      have y14 := fun n os => (KX.out n os).2.2.2.2.2.2
      have z0 := fun n os => (KY.out n os).1.1
      have z1 := fun n os => (KY.out n os).1.2.1
      have z2 := fun n os => (KY.out n os).1.2.2.1
      have z3 := fun n os => (KY.out n os).1.2.2.2.1
      have z4 := fun n os => (KY.out n os).1.2.2.2.2
      have z5 := fun n os => (KY.out n os).2.1.1
      have z6 := fun n os => (KY.out n os).2.1.2.1
      have z7 := fun n os => (KY.out n os).2.1.2.2.1
      have z8 := fun n os => (KY.out n os).2.1.2.2.2.1
      have z9 := fun n os => (KY.out n os).2.1.2.2.2.2
      have z10 := fun n os => (KY.out n os).2.2.1
      have z11 := fun n os => (KY.out n os).2.2.2.1
      have z12 := fun n os => (KY.out n os).2.2.2.2.1
      have z13 := fun n os => (KY.out n os).2.2.2.2.2.1
      have z14 := fun n os => (KY.out n os).2.2.2.2.2.2
      simp only at y0 y1 y2 y3 y4 y5 y6 y7 y8 y9 y10 y11 y12 y13 y14 z0 z1 z2 z3 z4 z5 z6 z7 z8 z9 z10 z11 z12 z13 z14
      clear KX KY CV
      clear GG
      go_wp2_with fail
      refine wp_region_quiet_grown (by assumption) (by kernel_rfl) ?_
      repeat (go_big_quiet_step ((go_at_call 37; with_reducible exact Calls.grown_of (LC.out _))))
      refine wpQuiet_nil ?_
      intro _ hw'
      obtain ⟨⟨nq, osq⟩, hw''⟩ := hw'
      subst hw''

      have G3 := Lib.hid (G.out.trans (Gr.of_grow (W := wr) nq osq))
      clear y0 y1 y2 y3 y4 y5 y6 y7 y8 y9 y10 y11 y12 y13 y14 z0 z1 z2 z3 z4 z5 z6 z7 z8 z9 z10 z11 z12 z13 z14 LC g1
      clear G
      go_wp2_with fail
      go_roundw
      case rel => exact ⟨h + 1, by go_num, by go_num, by omega, by omega, G3⟩
      case measure => simp [intOf]; omega
    · have ej : s = m := by omega
      subst ej
      have r5 : (d : Int) + (s : Int) - (s : Int) = (d : Int) := by omega
      have r6 : (a : Int) < (s : Int) := by omega
      by_cases k : s < d
      · have r7 : (s : Int) < (d : Int) := by omega
        go_wp2_with fail
        refine (REC.out k _ G.out).mono ?_
        rintro e w' ⟨rfl, G5⟩
        have FIN := Lib.hid (G.out.trans G5)
        clear G5
        go_wp2_with fail
        exact bodyPost_ret (v := .tuple #[]) (by simp [results, Tryz.results98, go_sem]) rfl ⟨rfl, FIN.out⟩
      · have r7 : decide ((s : Int) < (d : Int)) = false := by simp; omega
        go_wp2_with fail
        exact bodyPost_ret (v := .tuple #[]) (by simp [results, Tryz.results98, go_sem]) rfl ⟨rfl, G.out⟩

theorem sym_all (b off cap : Nat) (l : List Lsa) (S : KAsc l) (hl : l.length ≤ 1000000) : ∀ N, SymAll b off cap l N := by
  intro N
  induction N with
  | zero => intro a m e h1 h2 h3; omega
  | succ N ih =>
    intro a m e h1 h2 h3 h4 W h
    by_cases c1 : m = a + 1
    · subst c1
      exact sym_one b off cap l S hl a e h3 h4 W h
    · by_cases c2 : e = m + 1
      · subst c2
        exact sym_last b off cap l S hl a m (by omega) h4 W h
      · by_cases c3 : (a + e) / 2 < m
        · exact sym_right b off cap l S hl N ih a m e _ h1 (by omega) (by omega) h4 rfl c3 W h
        · exact sym_left b off cap l S hl N ih a m e _ h1 (by omega) (by omega) h4 rfl (by omega) W h

set_option maxHeartbeats 8000000 in
set_option maxRecDepth 100000 in
theorem stable_gen (W : World) (p : Option Addr) (cap n : Nat) (hl : n ≤ 1000000)
    (hI : ∀ (a e : Nat), a ≤ e → e ≤ n → ∀ W', Gr W W' → Calls Tryz.prog 97 #[.slice p n cap, .int .i64 a, .int .i64 e, .func (.func 37) #[] #[]] W' (NilPost W'))
    (hS : ∀ (a m e : Nat), a < m → m < e → e ≤ n → ∀ W', Gr W W' → Calls Tryz.prog 98 #[.slice p n cap, .int .i64 a, .int .i64 m, .int .i64 e, .func (.func 37) #[] #[]] W' (NilPost W')) :
    Calls Tryz.prog 68 #[.slice p n cap, .int .i64 n, .func (.func 37) #[] #[]] W (NilPost W) := by
  have INS := Lib.hid hI
  have SYM := Lib.hid hS
  clear hI hS
  go_enter Tryz.func68, Tryz.ntmps68
  go_wp2_with fail
  go_loopw [7, 8] (fun ax bx wi => ∃ a : Nat, ax = .int .i64 a ∧ bx = .int .i64 (a + 20 : Nat) ∧ a ≤ n ∧ Hid (Gr W wi)) (fun ax _ _ => n - (intOf ax).toNat)
  case atStart => exact ⟨0, rfl, by go_num, Nat.zero_le _, Lib.hid (Gr.refl _)⟩
  case round =>
    obtain ⟨a, rfl, rfl, ha, G⟩ := hrel
    by_cases c : a + 20 ≤ n
    · have c1 : (a : Int) + 20 ≤ (n : Int) := by omega
      have IC := Lib.hid (INS.out a (a + 20) (by omega) c wr G.out)
      go_wp2_with fail
      refine IC.out.mono ?_
      rintro e w' ⟨rfl, G5⟩
      have FIN := Lib.hid (G.out.trans G5)
      clear G5 G IC
      go_wp2_with fail
      go_roundw
      case rel => exact ⟨a + 20, by go_num, by go_num, c, FIN⟩
      case measure => simp [intOf]; omega
    · have c1 : decide ((a : Int) + 20 ≤ (n : Int)) = false := by simp; omega
      have IC := Lib.hid (INS.out a n ha (Nat.le_refl _) wr G.out)
      go_wp2_with fail
      refine IC.out.mono ?_
      rintro e w' ⟨rfl, G5⟩
      have G2 := Lib.hid (G.out.trans G5)
      clear G5 G IC c1 c ha
      go_wp2_with fail
      go_loopw [6] (fun sx wi => ∃ s : Nat, sx = .int .i64 s ∧ 20 ≤ s ∧ s ≤ 2 * n + 20 ∧ Hid (Gr W wi)) (fun sx _ => n - (intOf sx).toNat)
      case atStart => exact ⟨20, rfl, by omega, by omega, G2⟩
      case round =>
        clear G2
        obtain ⟨s, rfl, hs, hs2, G⟩ := hrel
        by_cases c : s < n
        · have c1 : (s : Int) < (n : Int) := by omega
          go_wp2_with fail
          go_loopw [7, 8] (fun ax bx wi => ∃ a : Nat, ax = .int .i64 a ∧ bx = .int .i64 (a + 2 * s : Nat) ∧ a ≤ n ∧ Hid (Gr W wi)) (fun ax _ _ => n - (intOf ax).toNat)
          case atStart => exact ⟨0, rfl, by go_num, Nat.zero_le _, G⟩
          case round =>
            clear G
            obtain ⟨a, rfl, rfl, ha, G⟩ := hrel
            by_cases k : a + 2 * s ≤ n
            · have k1 : (a : Int) + 2 * (s : Int) ≤ (n : Int) := by omega
              have IC := Lib.hid (SYM.out a (a + s) (a + 2 * s) (by omega) (by omega) k wr G.out)
              go_wp2_with fail
              refine IC.out.mono ?_
              rintro e w' ⟨rfl, G5⟩
              have FIN := Lib.hid (G.out.trans G5)
              clear G5 G IC
              go_wp2_with fail
              go_roundw
              case rel => exact ⟨a + 2 * s, by go_num, by go_num, k, FIN⟩
              case measure => simp [intOf]; omega
            · have k1 : decide ((a : Int) + 2 * (s : Int) ≤ (n : Int)) = false := by simp; omega
              by_cases t : a + s < n
              · have t1 : (a : Int) + (s : Int) < (n : Int) := by omega
                have IC := Lib.hid (SYM.out a (a + s) n (by omega) t (Nat.le_refl _) wr G.out)
                go_wp2_with fail
                refine IC.out.mono ?_
                rintro e w' ⟨rfl, G5⟩
                have FIN := Lib.hid (G.out.trans G5)
                clear G5 G IC
                go_wp2_with fail
                go_roundw
                case rel => exact ⟨s * 2, by go_num, by omega, by omega, FIN⟩
                case measure => simp [intOf]; omega
              · have t1 : decide ((a : Int) + (s : Int) < (n : Int)) = false := by simp; omega
                go_wp2_with fail
                go_roundw
                case rel => exact ⟨s * 2, by go_num, by omega, by omega, G⟩
                case measure => simp [intOf]; omega
        · have c1 : decide ((s : Int) < (n : Int)) = false := by simp; omega
          go_wp2_with fail
          exact bodyPost_ret (v := .tuple #[]) (by simp [results, Tryz.results68, go_sem]) rfl ⟨rfl, G.out⟩

set_option maxRecDepth 100000 in
theorem ins_nil (W : World) (p : Option Addr) (cap : Nat) :
    Calls Tryz.prog 97 #[.slice p 0 cap, .int .i64 0, .int .i64 0, .func (.func 37) #[] #[]] W (NilPost W) := by
  go_enter Tryz.func97, Tryz.ntmps97
  go_wp2_with fail
  go_loopw [8] (fun ix wi => ix = .int .i64 1 ∧ Hid (Gr W wi)) (fun ix _ => 0)
  case atStart => exact ⟨by go_num, Lib.hid (Gr.refl _)⟩
  case round =>
    obtain ⟨rfl, G⟩ := hrel
    go_wp2_with fail
    exact bodyPost_ret (v := .tuple #[]) (by simp [results, Tryz.results97, go_sem]) rfl ⟨rfl, G.out⟩

theorem stable_calls (W : World) (v : Value) (l : List Lsa) (h : LsasAt W v l) (S : KAsc l) (hl : l.length ≤ 1000000) :
    ∃ p c, v = .slice p l.length c ∧ Calls Tryz.prog 68 #[.slice p l.length c, .int .i64 l.length, .func (.func 37) #[] #[]] W (NilPost W) := by
  obtain ⟨p, c, rfl, -, hc⟩ := h.get
  refine ⟨p, c, rfl, ?_⟩
  cases l with
  | nil =>
    refine stable_gen W p c 0 (by omega) (fun a e h1 h2 W' _ => ?_) (fun a m e h1 h2 h3 => by omega)
    obtain rfl : e = 0 := by omega
    obtain rfl : a = 0 := by omega
    exact ins_nil W' p c
  | cons x l =>
    obtain ⟨b, off, rfl, hb, hcc⟩ := hc (by simp)
    have L : LAt W b off (x :: l) := ⟨hb, fun i hi => by rw [lsaAt_eq hi]; exact hcc i hi⟩
    generalize x :: l = l at *
    exact stable_gen W _ c _ hl (fun a e ha he W' g => ins_calls W' b off c l (L.gr g) S hl a e ha he)
      (fun a m e ham hme he W' g => sym_all b off c l S hl (e - a) a m e (Nat.le_refl _) ham hme he W' (L.gr g))

set_option maxRecDepth 100000 in
theorem sortstable_calls (W : World) (v : Value) (l : List Lsa) (h : LsasAt W v l) (S : KAsc l) (hl : l.length ≤ 1000000) :
    Calls Tryz.prog 36 #[v, .func (.func 37) #[] #[]] W (NilPost W) := by
  obtain ⟨p, c, rfl, hs⟩ := stable_calls W v l h S hl
  have H := Lib.hid hs
  clear hs h S
  go_enter Tryz.func36, Tryz.ntmps36
  go_wp2_with fail
  refine H.out.mono ?_
  rintro e w' ⟨rfl, G⟩
  have GG := Lib.hid G
  clear G H
  go_wp2_with fail
  exact bodyPost_ret (v := .tuple #[]) (by simp [results, Tryz.results36, go_sem]) rfl ⟨rfl, GG.out⟩

end Go.Proofs.YtiemmejpaahbpaaGreat
