/-
  routingref26.Find.
-/
/-
  routingref30.Designated.
-/
import Derived.Test.YtddageahmgaigaaGreatDse
import Derived.Test.YtddageahmgaigaaGreatDsg
namespace Go.Proofs.YtddageahmgaigaaGreat
open Go.RowKit

def nbZ : Nb := ⟨0, 0, 0, 0, 0, 0, 0, false, 0, ⟨none, 0, 0⟩, ⟨none, 0, 0⟩, false, ⟨none, 0, 0⟩, ⟨none, 0, 0⟩, 0⟩
def FfPost (w : World) (nb : List Nb) (r : Int) (e : Ending) (w' : World) : Prop :=
  ((e = .returned (.tuple #[.agg (nbE nbZ).toArray, .bool false]) ∧ ∀ n ∈ nb, n.r ≠ r) ∨ ∃ (n : Nb) (k : Nat) (c : k < nb.length), e = .returned (.tuple #[.agg (nbE n).toArray, .bool true]) ∧ nb[k] = n ∧ n.r = r ∧ ∀ m, (hm : m < k) → (nb[m]'(by omega)).r ≠ r) ∧ Below w.heap.size w w'

set_option maxHeartbeats 16000000 in
set_option maxRecDepth 100000 in
theorem rfind26_calls (x : Ifc) (nb : List Nb) (r : Int) (w : World) (hn : NbsAt w (.slice x.na x.nn x.nc) nb) : Calls Tryz.prog 30 #[.agg (ifE x).toArray, .int .u32 r] w (FfPost w nb r) := by
  obtain ⟨ga, gc, e1, hlen, hc1⟩ := hn.get
  have HC1 := Lib.hid hc1
  obtain ⟨kind, pa, pl, ad, area, cost, prio, hel, dead, up, dr, bdr, el, nh, a1, nn, c1⟩ := x
  simp only at e1
  simp only [Value.slice.injEq] at e1
  obtain ⟨rfl, rfl, rfl⟩ := e1
  simp only [ifE]
  clear hn hc1
  obtain ⟨W0, hW0⟩ : ∃ W0, (w.alloc (.cells #[.int .i64 kind, .int .u32 pa, .int .i64 pl, .int .u32 ad, .int .u32 area, .int .i64 cost, .int .i64 prio, .int .i64 hel, .int .i64 dead, .bool up, .int .u32 dr, .int .u32 bdr, .int .i64 el, .int .i64 nh, .slice a1 nb.length c1] 69)).alloc (.cells #[.int .u32 0, .int .u32 0, .int .i64 0, .int .u32 0, .int .u32 0, .int .i64 0, .int .i64 0, .bool false, .int .i64 0, .slice none 0 0, .slice none 0 0, .bool false, .slice none 0 0, .slice none 0 0, .int .i64 0] 72) = W0 := ⟨_, rfl⟩
  have B0 : Hid (Below w.heap.size w W0) := Lib.hid (by rw [← hW0]; exact ((Below.refl _ _).alloc (Nat.le_refl _) _).alloc (by simp) _)
  have X0 : W0.heap[w.heap.size]? = some (.cells #[.int .i64 kind, .int .u32 pa, .int .i64 pl, .int .u32 ad, .int .u32 area, .int .i64 cost, .int .i64 prio, .int .i64 hel, .int .i64 dead, .bool up, .int .u32 dr, .int .u32 bdr, .int .i64 el, .int .i64 nh, .slice a1 nb.length c1] 69 (0, 0)) := by rw [← hW0]; exact (alloc_get _ _ _ (by simp)).trans (alloc_new _ _)
  have Z0 : Hid (W0.heap[w.heap.size + 1]? = some (.cells #[.int .u32 0, .int .u32 0, .int .i64 0, .int .u32 0, .int .u32 0, .int .i64 0, .int .i64 0, .bool false, .int .i64 0, .slice none 0 0, .slice none 0 0, .bool false, .slice none 0 0, .slice none 0 0, .int .i64 0] 72 (0, 0))) := Lib.hid (by rw [← hW0]; exact blk_new2 w _ _)
  have HW0 := Lib.hid hW0
  have y14 : W0.cell? ⟨w.heap.size, 14, none⟩ = some (.slice a1 nb.length c1) := blk_cell X0 rfl
  clear hW0 X0
  go_enter Tryz.func30, Tryz.ntmps30
  go_upto_region 1 with fail
  rw [HW0.out]
  go_wp2_with fail
  go_loopw [6] (fun ix wr => ∃ k : Nat, ix = .int .i64 k ∧ k ≤ nb.length ∧ wr = W0 ∧ Hid (∀ m, (hm : m < nb.length) → m < k → nb[m].r ≠ r)) (fun ix _ => nb.length - (intOf ix).toNat)
  case atStart => exact ⟨0, rfl, Nat.zero_le _, rfl, Lib.hid (fun m _ hm => absurd hm (by omega))⟩
  case round =>
    clear HW0
    obtain ⟨k, rfl, hk, rfl, NO⟩ := hrel
    by_cases c : k < nb.length
    · obtain ⟨b1, o1, rfl, hb1, hcc1⟩ := HC1.out (by omega)
      obtain ⟨⟨d0, d1, d2, d3, d4⟩, ⟨d5, d6, d7, d8, d9⟩, ⟨d10, d11, d12, d13, d14⟩⟩ := (hcc1 k c).below B0.out hb1
      have KC := Lib.hid c
      have i0 : (0 : Int) ≤ (k : Int) := by omega
      have i1 : (k : Int) < (nb.length : Int) := by omega
      have s3 : ((k : Int)).toNat = k := by omega
      have YES : Hid (∀ n, nb[k] = n → n.r = r → ∀ W, Below w.heap.size w W → FfPost w nb r (.returned (.tuple #[.agg (nbE n).toArray, .bool true])) W) := Lib.hid (fun n e h W g => ⟨.inr ⟨n, k, c, rfl, e, h, fun m hm => NO.out m (by omega) hm⟩, g⟩)
      have NXT : Hid (nb[k].r ≠ r → ∀ m, (hm : m < nb.length) → m < k + 1 → nb[m].r ≠ r) := Lib.hid (fun e m hm h => by
        rcases Nat.lt_or_ge m k with h' | h'
        · exact NO.out m hm h'
        · obtain rfl : m = k := by omega
          exact e)
      clear hcc1 NO
      generalize nb[k] = n at *
      clear c
      have YE := Lib.hid (YES.out n rfl)
      clear YES
      obtain ⟨nr, na, nprio, ndr, nbdr, nst, ntil, nmas, nseq, ⟨v9a, v9n, v9c⟩, ⟨vAa, vAn, vAc⟩, nmore, ⟨vCa, vCn, vCc⟩, ⟨vDa, vDn, vDc⟩, nres⟩ := n
      simp only at d0 d1 d2 d3 d4 d5 d6 d7 d8 d9 d10 d11 d12 d13 d14 NXT
      by_cases q : nr = r
      · subst q
        have Y := Lib.hid (fun W g => YE.out rfl W g)
        clear YE NXT
        obtain ⟨W', hW'⟩ : ∃ W', (((((((((((((((wr).setCell ⟨w.heap.size + 1, 0, none⟩ (.int .u32 nr)).setCell ⟨w.heap.size + 1, 1, none⟩ (.int .u32 na)).setCell ⟨w.heap.size + 1, 2, none⟩ (.int .i64 nprio)).setCell ⟨w.heap.size + 1, 3, none⟩ (.int .u32 ndr)).setCell ⟨w.heap.size + 1, 4, none⟩ (.int .u32 nbdr)).setCell ⟨w.heap.size + 1, 5, none⟩ (.int .i64 nst)).setCell ⟨w.heap.size + 1, 6, none⟩ (.int .i64 ntil)).setCell ⟨w.heap.size + 1, 7, none⟩ (.bool nmas)).setCell ⟨w.heap.size + 1, 8, none⟩ (.int .i64 nseq)).setCell ⟨w.heap.size + 1, 9, none⟩ (.slice v9a v9n v9c)).setCell ⟨w.heap.size + 1, 10, none⟩ (.slice vAa vAn vAc)).setCell ⟨w.heap.size + 1, 11, none⟩ (.bool nmore)).setCell ⟨w.heap.size + 1, 12, none⟩ (.slice vCa vCn vCc)).setCell ⟨w.heap.size + 1, 13, none⟩ (.slice vDa vDn vDc)).setCell ⟨w.heap.size + 1, 14, none⟩ (.int .i64 nres) = W' := ⟨_, rfl⟩
        have bk' : W'.heap[w.heap.size + 1]? = some (.cells #[.int .u32 nr, .int .u32 na, .int .i64 nprio, .int .u32 ndr, .int .u32 nbdr, .int .i64 nst, .int .i64 ntil, .bool nmas, .int .i64 nseq, .slice v9a v9n v9c, .slice vAa vAn vAc, .bool nmore, .slice vCa vCn vCc, .slice vDa vDn vDc, .int .i64 nres] 72 (0, 0)) := by
          rw [← hW']
          have h1 := blk_set (blk_set (blk_set (blk_set (blk_set (blk_set (blk_set (blk_set (blk_set (blk_set (blk_set (blk_set (blk_set (blk_set (blk_set (Z0.out) 0 (.int .u32 nr)) 1 (.int .u32 na)) 2 (.int .i64 nprio)) 3 (.int .u32 ndr)) 4 (.int .u32 nbdr)) 5 (.int .i64 nst)) 6 (.int .i64 ntil)) 7 (.bool nmas)) 8 (.int .i64 nseq)) 9 (.slice v9a v9n v9c)) 10 (.slice vAa vAn vAc)) 11 (.bool nmore)) 12 (.slice vCa vCn vCc)) 13 (.slice vDa vDn vDc)) 14 (.int .i64 nres)
          simp only [List.setIfInBounds_toArray, List.set_cons_zero, List.set_cons_succ] at h1
          exact h1
        have BN : wr.grownBy W' (some (w.heap.size + 1)) := by
          rw [← hW']
          exact grown_grown0 (grown_grown0 (grown_grown0 (grown_grown0 (grown_grown0 (grown_grown0 (grown_grown0 (grown_grown0 (grown_grown0 (grown_grown0 (grown_grown0 (grown_grown0 (grown_grown0 (grown_grown0 (grown_grown0 (⟨rfl, rfl, rfl, Nat.le_refl _, fun _ _ _ => rfl⟩) (grown_set (wr) (w.heap.size + 1) 0 (.int .u32 nr))) (grown_set ((wr).setCell ⟨w.heap.size + 1, 0, none⟩ (.int .u32 nr)) (w.heap.size + 1) 1 (.int .u32 na))) (grown_set (((wr).setCell ⟨w.heap.size + 1, 0, none⟩ (.int .u32 nr)).setCell ⟨w.heap.size + 1, 1, none⟩ (.int .u32 na)) (w.heap.size + 1) 2 (.int .i64 nprio))) (grown_set ((((wr).setCell ⟨w.heap.size + 1, 0, none⟩ (.int .u32 nr)).setCell ⟨w.heap.size + 1, 1, none⟩ (.int .u32 na)).setCell ⟨w.heap.size + 1, 2, none⟩ (.int .i64 nprio)) (w.heap.size + 1) 3 (.int .u32 ndr))) (grown_set (((((wr).setCell ⟨w.heap.size + 1, 0, none⟩ (.int .u32 nr)).setCell ⟨w.heap.size + 1, 1, none⟩ (.int .u32 na)).setCell ⟨w.heap.size + 1, 2, none⟩ (.int .i64 nprio)).setCell ⟨w.heap.size + 1, 3, none⟩ (.int .u32 ndr)) (w.heap.size + 1) 4 (.int .u32 nbdr))) (grown_set ((((((wr).setCell ⟨w.heap.size + 1, 0, none⟩ (.int .u32 nr)).setCell ⟨w.heap.size + 1, 1, none⟩ (.int .u32 na)).setCell ⟨w.heap.size + 1, 2, none⟩ (.int .i64 nprio)).setCell ⟨w.heap.size + 1, 3, none⟩ (.int .u32 ndr)).setCell ⟨w.heap.size + 1, 4, none⟩ (.int .u32 nbdr)) (w.heap.size + 1) 5 (.int .i64 nst))) (grown_set (((((((wr).setCell ⟨w.heap.size + 1, 0, none⟩ (.int .u32 nr)).setCell ⟨w.heap.size + 1, 1, none⟩ (.int .u32 na)).setCell ⟨w.heap.size + 1, 2, none⟩ (.int .i64 nprio)).setCell ⟨w.heap.size + 1, 3, none⟩ (.int .u32 ndr)).setCell ⟨w.heap.size + 1, 4, none⟩ (.int .u32 nbdr)).setCell ⟨w.heap.size + 1, 5, none⟩ (.int .i64 nst)) (w.heap.size + 1) 6 (.int .i64 ntil))) (grown_set ((((((((wr).setCell ⟨w.heap.size + 1, 0, none⟩ (.int .u32 nr)).setCell ⟨w.heap.size + 1, 1, none⟩ (.int .u32 na)).setCell ⟨w.heap.size + 1, 2, none⟩ (.int .i64 nprio)).setCell ⟨w.heap.size + 1, 3, none⟩ (.int .u32 ndr)).setCell ⟨w.heap.size + 1, 4, none⟩ (.int .u32 nbdr)).setCell ⟨w.heap.size + 1, 5, none⟩ (.int .i64 nst)).setCell ⟨w.heap.size + 1, 6, none⟩ (.int .i64 ntil)) (w.heap.size + 1) 7 (.bool nmas))) (grown_set (((((((((wr).setCell ⟨w.heap.size + 1, 0, none⟩ (.int .u32 nr)).setCell ⟨w.heap.size + 1, 1, none⟩ (.int .u32 na)).setCell ⟨w.heap.size + 1, 2, none⟩ (.int .i64 nprio)).setCell ⟨w.heap.size + 1, 3, none⟩ (.int .u32 ndr)).setCell ⟨w.heap.size + 1, 4, none⟩ (.int .u32 nbdr)).setCell ⟨w.heap.size + 1, 5, none⟩ (.int .i64 nst)).setCell ⟨w.heap.size + 1, 6, none⟩ (.int .i64 ntil)).setCell ⟨w.heap.size + 1, 7, none⟩ (.bool nmas)) (w.heap.size + 1) 8 (.int .i64 nseq))) (grown_set ((((((((((wr).setCell ⟨w.heap.size + 1, 0, none⟩ (.int .u32 nr)).setCell ⟨w.heap.size + 1, 1, none⟩ (.int .u32 na)).setCell ⟨w.heap.size + 1, 2, none⟩ (.int .i64 nprio)).setCell ⟨w.heap.size + 1, 3, none⟩ (.int .u32 ndr)).setCell ⟨w.heap.size + 1, 4, none⟩ (.int .u32 nbdr)).setCell ⟨w.heap.size + 1, 5, none⟩ (.int .i64 nst)).setCell ⟨w.heap.size + 1, 6, none⟩ (.int .i64 ntil)).setCell ⟨w.heap.size + 1, 7, none⟩ (.bool nmas)).setCell ⟨w.heap.size + 1, 8, none⟩ (.int .i64 nseq)) (w.heap.size + 1) 9 (.slice v9a v9n v9c))) (grown_set (((((((((((wr).setCell ⟨w.heap.size + 1, 0, none⟩ (.int .u32 nr)).setCell ⟨w.heap.size + 1, 1, none⟩ (.int .u32 na)).setCell ⟨w.heap.size + 1, 2, none⟩ (.int .i64 nprio)).setCell ⟨w.heap.size + 1, 3, none⟩ (.int .u32 ndr)).setCell ⟨w.heap.size + 1, 4, none⟩ (.int .u32 nbdr)).setCell ⟨w.heap.size + 1, 5, none⟩ (.int .i64 nst)).setCell ⟨w.heap.size + 1, 6, none⟩ (.int .i64 ntil)).setCell ⟨w.heap.size + 1, 7, none⟩ (.bool nmas)).setCell ⟨w.heap.size + 1, 8, none⟩ (.int .i64 nseq)).setCell ⟨w.heap.size + 1, 9, none⟩ (.slice v9a v9n v9c)) (w.heap.size + 1) 10 (.slice vAa vAn vAc))) (grown_set ((((((((((((wr).setCell ⟨w.heap.size + 1, 0, none⟩ (.int .u32 nr)).setCell ⟨w.heap.size + 1, 1, none⟩ (.int .u32 na)).setCell ⟨w.heap.size + 1, 2, none⟩ (.int .i64 nprio)).setCell ⟨w.heap.size + 1, 3, none⟩ (.int .u32 ndr)).setCell ⟨w.heap.size + 1, 4, none⟩ (.int .u32 nbdr)).setCell ⟨w.heap.size + 1, 5, none⟩ (.int .i64 nst)).setCell ⟨w.heap.size + 1, 6, none⟩ (.int .i64 ntil)).setCell ⟨w.heap.size + 1, 7, none⟩ (.bool nmas)).setCell ⟨w.heap.size + 1, 8, none⟩ (.int .i64 nseq)).setCell ⟨w.heap.size + 1, 9, none⟩ (.slice v9a v9n v9c)).setCell ⟨w.heap.size + 1, 10, none⟩ (.slice vAa vAn vAc)) (w.heap.size + 1) 11 (.bool nmore))) (grown_set (((((((((((((wr).setCell ⟨w.heap.size + 1, 0, none⟩ (.int .u32 nr)).setCell ⟨w.heap.size + 1, 1, none⟩ (.int .u32 na)).setCell ⟨w.heap.size + 1, 2, none⟩ (.int .i64 nprio)).setCell ⟨w.heap.size + 1, 3, none⟩ (.int .u32 ndr)).setCell ⟨w.heap.size + 1, 4, none⟩ (.int .u32 nbdr)).setCell ⟨w.heap.size + 1, 5, none⟩ (.int .i64 nst)).setCell ⟨w.heap.size + 1, 6, none⟩ (.int .i64 ntil)).setCell ⟨w.heap.size + 1, 7, none⟩ (.bool nmas)).setCell ⟨w.heap.size + 1, 8, none⟩ (.int .i64 nseq)).setCell ⟨w.heap.size + 1, 9, none⟩ (.slice v9a v9n v9c)).setCell ⟨w.heap.size + 1, 10, none⟩ (.slice vAa vAn vAc)).setCell ⟨w.heap.size + 1, 11, none⟩ (.bool nmore)) (w.heap.size + 1) 12 (.slice vCa vCn vCc))) (grown_set ((((((((((((((wr).setCell ⟨w.heap.size + 1, 0, none⟩ (.int .u32 nr)).setCell ⟨w.heap.size + 1, 1, none⟩ (.int .u32 na)).setCell ⟨w.heap.size + 1, 2, none⟩ (.int .i64 nprio)).setCell ⟨w.heap.size + 1, 3, none⟩ (.int .u32 ndr)).setCell ⟨w.heap.size + 1, 4, none⟩ (.int .u32 nbdr)).setCell ⟨w.heap.size + 1, 5, none⟩ (.int .i64 nst)).setCell ⟨w.heap.size + 1, 6, none⟩ (.int .i64 ntil)).setCell ⟨w.heap.size + 1, 7, none⟩ (.bool nmas)).setCell ⟨w.heap.size + 1, 8, none⟩ (.int .i64 nseq)).setCell ⟨w.heap.size + 1, 9, none⟩ (.slice v9a v9n v9c)).setCell ⟨w.heap.size + 1, 10, none⟩ (.slice vAa vAn vAc)).setCell ⟨w.heap.size + 1, 11, none⟩ (.bool nmore)).setCell ⟨w.heap.size + 1, 12, none⟩ (.slice vCa vCn vCc)) (w.heap.size + 1) 13 (.slice vDa vDn vDc))) (grown_set (((((((((((((((wr).setCell ⟨w.heap.size + 1, 0, none⟩ (.int .u32 nr)).setCell ⟨w.heap.size + 1, 1, none⟩ (.int .u32 na)).setCell ⟨w.heap.size + 1, 2, none⟩ (.int .i64 nprio)).setCell ⟨w.heap.size + 1, 3, none⟩ (.int .u32 ndr)).setCell ⟨w.heap.size + 1, 4, none⟩ (.int .u32 nbdr)).setCell ⟨w.heap.size + 1, 5, none⟩ (.int .i64 nst)).setCell ⟨w.heap.size + 1, 6, none⟩ (.int .i64 ntil)).setCell ⟨w.heap.size + 1, 7, none⟩ (.bool nmas)).setCell ⟨w.heap.size + 1, 8, none⟩ (.int .i64 nseq)).setCell ⟨w.heap.size + 1, 9, none⟩ (.slice v9a v9n v9c)).setCell ⟨w.heap.size + 1, 10, none⟩ (.slice vAa vAn vAc)).setCell ⟨w.heap.size + 1, 11, none⟩ (.bool nmore)).setCell ⟨w.heap.size + 1, 12, none⟩ (.slice vCa vCn vCc)).setCell ⟨w.heap.size + 1, 13, none⟩ (.slice vDa vDn vDc)) (w.heap.size + 1) 14 (.int .i64 nres))
        have BW' : Below w.heap.size w W' := B0.out.grown BN B0.out.size (fun j hj => by cases hj; omega)
        have FIN : Hid (FfPost w nb nr (.returned (.tuple #[.agg #[.int .u32 nr, .int .u32 na, .int .i64 nprio, .int .u32 ndr, .int .u32 nbdr, .int .i64 nst, .int .i64 ntil, .bool nmas, .int .i64 nseq, .slice v9a v9n v9c, .slice vAa vAn vAc, .bool nmore, .slice vCa vCn vCc, .slice vDa vDn vDc, .int .i64 nres], .bool true])) W') := Lib.hid (Y.out _ BW')
        have HW' := Lib.hid hW'
        obtain ⟨⟨⟨z0, z1, z2, z3, z4⟩, ⟨z5, z6, z7, z8, z9⟩, ⟨z10, z11, z12, z13, z14⟩⟩, hfz⟩ := blk15 Z0.out
        have zf0 := hfz 0
        have zf1 := hfz 1
        have zf2 := hfz 2
        have zf3 := hfz 3
        have zf4 := hfz 4
        have zf5 := hfz 5
        have zf6 := hfz 6
        have zf7 := hfz 7
        have zf8 := hfz 8
        have zf9 := hfz 9
        have zf10 := hfz 10
        have zf11 := hfz 11
        have zf12 := hfz 12
        have zf13 := hfz 13
        have zf14 := hfz 14
        obtain ⟨⟨⟨g0, g1, g2, g3, g4⟩, ⟨g5, g6, g7, g8, g9⟩, ⟨g10, g11, g12, g13, g14⟩⟩, -⟩ := blk15 bk'
        have G := Lib.hid (And.intro g0 (And.intro g1 (And.intro g2 (And.intro g3 (And.intro g4 (And.intro g5 (And.intro g6 (And.intro g7 (And.intro g8 (And.intro g9 (And.intro g10 (And.intro g11 (And.intro g12 (And.intro g13 g14))))))))))))))
        clear hW' bk' BN BW' hfz g0 g1 g2 g3 g4 g5 g6 g7 g8 g9 g10 g11 g12 g13 g14
        go_wp2_with fail
        rw [HW'.out]
        obtain ⟨g0, g1, g2, g3, g4, g5, g6, g7, g8, g9, g10, g11, g12, g13, g14⟩ := G.out
        exact bodyPost_ret (v := .tuple #[.agg #[.int .u32 nr, .int .u32 na, .int .i64 nprio, .int .u32 ndr, .int .u32 nbdr, .int .i64 nst, .int .i64 ntil, .bool nmas, .int .i64 nseq, .slice v9a v9n v9c, .slice vAa vAn vAc, .bool nmore, .slice vCa vCn vCc, .slice vDa vDn vDc, .int .i64 nres], .bool true]) (by simp [results, Tryz.results30, go_sem, g0, g1, g2, g3, g4, g5, g6, g7, g8, g9, g10, g11, g12, g13, g14]) rfl FIN.out
      · have q' : (nr == r) = false := by simpa using q
        have N := Lib.hid (NXT.out q)
        clear YE NXT q
        go_wp2_with fail
        go_roundw
        case rel => exact ⟨k + 1, by go_num, KC.out, by first | rfl | trivial, N⟩
        case measure => simp [intOf]; have := KC.out; omega
    · have NN : Hid (∀ n ∈ nb, n.r ≠ r) := Lib.hid (fun n hn => by
        obtain ⟨i, hi, rfl⟩ := List.getElem_of_mem hn
        exact NO.out i hi (by omega))
      clear NO HC1
      obtain ⟨W', hW'⟩ : ∃ W', (((((((((((((((wr).setCell ⟨w.heap.size + 1, 0, none⟩ (.int .u32 0)).setCell ⟨w.heap.size + 1, 1, none⟩ (.int .u32 0)).setCell ⟨w.heap.size + 1, 2, none⟩ (.int .i64 0)).setCell ⟨w.heap.size + 1, 3, none⟩ (.int .u32 0)).setCell ⟨w.heap.size + 1, 4, none⟩ (.int .u32 0)).setCell ⟨w.heap.size + 1, 5, none⟩ (.int .i64 0)).setCell ⟨w.heap.size + 1, 6, none⟩ (.int .i64 0)).setCell ⟨w.heap.size + 1, 7, none⟩ (.bool false)).setCell ⟨w.heap.size + 1, 8, none⟩ (.int .i64 0)).setCell ⟨w.heap.size + 1, 9, none⟩ (.slice none 0 0)).setCell ⟨w.heap.size + 1, 10, none⟩ (.slice none 0 0)).setCell ⟨w.heap.size + 1, 11, none⟩ (.bool false)).setCell ⟨w.heap.size + 1, 12, none⟩ (.slice none 0 0)).setCell ⟨w.heap.size + 1, 13, none⟩ (.slice none 0 0)).setCell ⟨w.heap.size + 1, 14, none⟩ (.int .i64 0) = W' := ⟨_, rfl⟩
      have bk' : W'.heap[w.heap.size + 1]? = some (.cells #[.int .u32 0, .int .u32 0, .int .i64 0, .int .u32 0, .int .u32 0, .int .i64 0, .int .i64 0, .bool false, .int .i64 0, .slice none 0 0, .slice none 0 0, .bool false, .slice none 0 0, .slice none 0 0, .int .i64 0] 72 (0, 0)) := by
        rw [← hW']
        have h1 := blk_set (blk_set (blk_set (blk_set (blk_set (blk_set (blk_set (blk_set (blk_set (blk_set (blk_set (blk_set (blk_set (blk_set (blk_set (Z0.out) 0 (.int .u32 0)) 1 (.int .u32 0)) 2 (.int .i64 0)) 3 (.int .u32 0)) 4 (.int .u32 0)) 5 (.int .i64 0)) 6 (.int .i64 0)) 7 (.bool false)) 8 (.int .i64 0)) 9 (.slice none 0 0)) 10 (.slice none 0 0)) 11 (.bool false)) 12 (.slice none 0 0)) 13 (.slice none 0 0)) 14 (.int .i64 0)
        simp only [List.setIfInBounds_toArray, List.set_cons_zero, List.set_cons_succ] at h1
        exact h1
      have BN : wr.grownBy W' (some (w.heap.size + 1)) := by
        rw [← hW']
        exact grown_grown0 (grown_grown0 (grown_grown0 (grown_grown0 (grown_grown0 (grown_grown0 (grown_grown0 (grown_grown0 (grown_grown0 (grown_grown0 (grown_grown0 (grown_grown0 (grown_grown0 (grown_grown0 (grown_grown0 (⟨rfl, rfl, rfl, Nat.le_refl _, fun _ _ _ => rfl⟩) (grown_set (wr) (w.heap.size + 1) 0 (.int .u32 0))) (grown_set ((wr).setCell ⟨w.heap.size + 1, 0, none⟩ (.int .u32 0)) (w.heap.size + 1) 1 (.int .u32 0))) (grown_set (((wr).setCell ⟨w.heap.size + 1, 0, none⟩ (.int .u32 0)).setCell ⟨w.heap.size + 1, 1, none⟩ (.int .u32 0)) (w.heap.size + 1) 2 (.int .i64 0))) (grown_set ((((wr).setCell ⟨w.heap.size + 1, 0, none⟩ (.int .u32 0)).setCell ⟨w.heap.size + 1, 1, none⟩ (.int .u32 0)).setCell ⟨w.heap.size + 1, 2, none⟩ (.int .i64 0)) (w.heap.size + 1) 3 (.int .u32 0))) (grown_set (((((wr).setCell ⟨w.heap.size + 1, 0, none⟩ (.int .u32 0)).setCell ⟨w.heap.size + 1, 1, none⟩ (.int .u32 0)).setCell ⟨w.heap.size + 1, 2, none⟩ (.int .i64 0)).setCell ⟨w.heap.size + 1, 3, none⟩ (.int .u32 0)) (w.heap.size + 1) 4 (.int .u32 0))) (grown_set ((((((wr).setCell ⟨w.heap.size + 1, 0, none⟩ (.int .u32 0)).setCell ⟨w.heap.size + 1, 1, none⟩ (.int .u32 0)).setCell ⟨w.heap.size + 1, 2, none⟩ (.int .i64 0)).setCell ⟨w.heap.size + 1, 3, none⟩ (.int .u32 0)).setCell ⟨w.heap.size + 1, 4, none⟩ (.int .u32 0)) (w.heap.size + 1) 5 (.int .i64 0))) (grown_set (((((((wr).setCell ⟨w.heap.size + 1, 0, none⟩ (.int .u32 0)).setCell ⟨w.heap.size + 1, 1, none⟩ (.int .u32 0)).setCell ⟨w.heap.size + 1, 2, none⟩ (.int .i64 0)).setCell ⟨w.heap.size + 1, 3, none⟩ (.int .u32 0)).setCell ⟨w.heap.size + 1, 4, none⟩ (.int .u32 0)).setCell ⟨w.heap.size + 1, 5, none⟩ (.int .i64 0)) (w.heap.size + 1) 6 (.int .i64 0))) (grown_set ((((((((wr).setCell ⟨w.heap.size + 1, 0, none⟩ (.int .u32 0)).setCell ⟨w.heap.size + 1, 1, none⟩ (.int .u32 0)).setCell ⟨w.heap.size + 1, 2, none⟩ (.int .i64 0)).setCell ⟨w.heap.size + 1, 3, none⟩ (.int .u32 0)).setCell ⟨w.heap.size + 1, 4, none⟩ (.int .u32 0)).setCell ⟨w.heap.size + 1, 5, none⟩ (.int .i64 0)).setCell ⟨w.heap.size + 1, 6, none⟩ (.int .i64 0)) (w.heap.size + 1) 7 (.bool false))) (grown_set (((((((((wr).setCell ⟨w.heap.size + 1, 0, none⟩ (.int .u32 0)).setCell ⟨w.heap.size + 1, 1, none⟩ (.int .u32 0)).setCell ⟨w.heap.size + 1, 2, none⟩ (.int .i64 0)).setCell ⟨w.heap.size + 1, 3, none⟩ (.int .u32 0)).setCell ⟨w.heap.size + 1, 4, none⟩ (.int .u32 0)).setCell ⟨w.heap.size + 1, 5, none⟩ (.int .i64 0)).setCell ⟨w.heap.size + 1, 6, none⟩ (.int .i64 0)).setCell ⟨w.heap.size + 1, 7, none⟩ (.bool false)) (w.heap.size + 1) 8 (.int .i64 0))) (grown_set ((((((((((wr).setCell ⟨w.heap.size + 1, 0, none⟩ (.int .u32 0)).setCell ⟨w.heap.size + 1, 1, none⟩ (.int .u32 0)).setCell ⟨w.heap.size + 1, 2, none⟩ (.int .i64 0)).setCell ⟨w.heap.size + 1, 3, none⟩ (.int .u32 0)).setCell ⟨w.heap.size + 1, 4, none⟩ (.int .u32 0)).setCell ⟨w.heap.size + 1, 5, none⟩ (.int .i64 0)).setCell ⟨w.heap.size + 1, 6, none⟩ (.int .i64 0)).setCell ⟨w.heap.size + 1, 7, none⟩ (.bool false)).setCell ⟨w.heap.size + 1, 8, none⟩ (.int .i64 0)) (w.heap.size + 1) 9 (.slice none 0 0))) (grown_set (((((((((((wr).setCell ⟨w.heap.size + 1, 0, none⟩ (.int .u32 0)).setCell ⟨w.heap.size + 1, 1, none⟩ (.int .u32 0)).setCell ⟨w.heap.size + 1, 2, none⟩ (.int .i64 0)).setCell ⟨w.heap.size + 1, 3, none⟩ (.int .u32 0)).setCell ⟨w.heap.size + 1, 4, none⟩ (.int .u32 0)).setCell ⟨w.heap.size + 1, 5, none⟩ (.int .i64 0)).setCell ⟨w.heap.size + 1, 6, none⟩ (.int .i64 0)).setCell ⟨w.heap.size + 1, 7, none⟩ (.bool false)).setCell ⟨w.heap.size + 1, 8, none⟩ (.int .i64 0)).setCell ⟨w.heap.size + 1, 9, none⟩ (.slice none 0 0)) (w.heap.size + 1) 10 (.slice none 0 0))) (grown_set ((((((((((((wr).setCell ⟨w.heap.size + 1, 0, none⟩ (.int .u32 0)).setCell ⟨w.heap.size + 1, 1, none⟩ (.int .u32 0)).setCell ⟨w.heap.size + 1, 2, none⟩ (.int .i64 0)).setCell ⟨w.heap.size + 1, 3, none⟩ (.int .u32 0)).setCell ⟨w.heap.size + 1, 4, none⟩ (.int .u32 0)).setCell ⟨w.heap.size + 1, 5, none⟩ (.int .i64 0)).setCell ⟨w.heap.size + 1, 6, none⟩ (.int .i64 0)).setCell ⟨w.heap.size + 1, 7, none⟩ (.bool false)).setCell ⟨w.heap.size + 1, 8, none⟩ (.int .i64 0)).setCell ⟨w.heap.size + 1, 9, none⟩ (.slice none 0 0)).setCell ⟨w.heap.size + 1, 10, none⟩ (.slice none 0 0)) (w.heap.size + 1) 11 (.bool false))) (grown_set (((((((((((((wr).setCell ⟨w.heap.size + 1, 0, none⟩ (.int .u32 0)).setCell ⟨w.heap.size + 1, 1, none⟩ (.int .u32 0)).setCell ⟨w.heap.size + 1, 2, none⟩ (.int .i64 0)).setCell ⟨w.heap.size + 1, 3, none⟩ (.int .u32 0)).setCell ⟨w.heap.size + 1, 4, none⟩ (.int .u32 0)).setCell ⟨w.heap.size + 1, 5, none⟩ (.int .i64 0)).setCell ⟨w.heap.size + 1, 6, none⟩ (.int .i64 0)).setCell ⟨w.heap.size + 1, 7, none⟩ (.bool false)).setCell ⟨w.heap.size + 1, 8, none⟩ (.int .i64 0)).setCell ⟨w.heap.size + 1, 9, none⟩ (.slice none 0 0)).setCell ⟨w.heap.size + 1, 10, none⟩ (.slice none 0 0)).setCell ⟨w.heap.size + 1, 11, none⟩ (.bool false)) (w.heap.size + 1) 12 (.slice none 0 0))) (grown_set ((((((((((((((wr).setCell ⟨w.heap.size + 1, 0, none⟩ (.int .u32 0)).setCell ⟨w.heap.size + 1, 1, none⟩ (.int .u32 0)).setCell ⟨w.heap.size + 1, 2, none⟩ (.int .i64 0)).setCell ⟨w.heap.size + 1, 3, none⟩ (.int .u32 0)).setCell ⟨w.heap.size + 1, 4, none⟩ (.int .u32 0)).setCell ⟨w.heap.size + 1, 5, none⟩ (.int .i64 0)).setCell ⟨w.heap.size + 1, 6, none⟩ (.int .i64 0)).setCell ⟨w.heap.size + 1, 7, none⟩ (.bool false)).setCell ⟨w.heap.size + 1, 8, none⟩ (.int .i64 0)).setCell ⟨w.heap.size + 1, 9, none⟩ (.slice none 0 0)).setCell ⟨w.heap.size + 1, 10, none⟩ (.slice none 0 0)).setCell ⟨w.heap.size + 1, 11, none⟩ (.bool false)).setCell ⟨w.heap.size + 1, 12, none⟩ (.slice none 0 0)) (w.heap.size + 1) 13 (.slice none 0 0))) (grown_set (((((((((((((((wr).setCell ⟨w.heap.size + 1, 0, none⟩ (.int .u32 0)).setCell ⟨w.heap.size + 1, 1, none⟩ (.int .u32 0)).setCell ⟨w.heap.size + 1, 2, none⟩ (.int .i64 0)).setCell ⟨w.heap.size + 1, 3, none⟩ (.int .u32 0)).setCell ⟨w.heap.size + 1, 4, none⟩ (.int .u32 0)).setCell ⟨w.heap.size + 1, 5, none⟩ (.int .i64 0)).setCell ⟨w.heap.size + 1, 6, none⟩ (.int .i64 0)).setCell ⟨w.heap.size + 1, 7, none⟩ (.bool false)).setCell ⟨w.heap.size + 1, 8, none⟩ (.int .i64 0)).setCell ⟨w.heap.size + 1, 9, none⟩ (.slice none 0 0)).setCell ⟨w.heap.size + 1, 10, none⟩ (.slice none 0 0)).setCell ⟨w.heap.size + 1, 11, none⟩ (.bool false)).setCell ⟨w.heap.size + 1, 12, none⟩ (.slice none 0 0)).setCell ⟨w.heap.size + 1, 13, none⟩ (.slice none 0 0)) (w.heap.size + 1) 14 (.int .i64 0))
      have BW' : Below w.heap.size w W' := B0.out.grown BN B0.out.size (fun j hj => by cases hj; omega)
      have FIN : Hid (FfPost w nb r (.returned (.tuple #[.agg #[.int .u32 0, .int .u32 0, .int .i64 0, .int .u32 0, .int .u32 0, .int .i64 0, .int .i64 0, .bool false, .int .i64 0, .slice none 0 0, .slice none 0 0, .bool false, .slice none 0 0, .slice none 0 0, .int .i64 0], .bool false])) W') := Lib.hid ⟨.inl ⟨rfl, NN.out⟩, BW'⟩
      have HW' := Lib.hid hW'
      obtain ⟨⟨⟨z0, z1, z2, z3, z4⟩, ⟨z5, z6, z7, z8, z9⟩, ⟨z10, z11, z12, z13, z14⟩⟩, hfz⟩ := blk15 Z0.out
      have zf0 := hfz 0
      have zf1 := hfz 1
      have zf2 := hfz 2
      have zf3 := hfz 3
      have zf4 := hfz 4
      have zf5 := hfz 5
      have zf6 := hfz 6
      have zf7 := hfz 7
      have zf8 := hfz 8
      have zf9 := hfz 9
      have zf10 := hfz 10
      have zf11 := hfz 11
      have zf12 := hfz 12
      have zf13 := hfz 13
      have zf14 := hfz 14
      obtain ⟨⟨⟨g0, g1, g2, g3, g4⟩, ⟨g5, g6, g7, g8, g9⟩, ⟨g10, g11, g12, g13, g14⟩⟩, -⟩ := blk15 bk'
      have G := Lib.hid (And.intro g0 (And.intro g1 (And.intro g2 (And.intro g3 (And.intro g4 (And.intro g5 (And.intro g6 (And.intro g7 (And.intro g8 (And.intro g9 (And.intro g10 (And.intro g11 (And.intro g12 (And.intro g13 g14))))))))))))))
      clear hW' bk' BN BW' hfz g0 g1 g2 g3 g4 g5 g6 g7 g8 g9 g10 g11 g12 g13 g14
      go_wp2_with fail
      rw [HW'.out]
      obtain ⟨g0, g1, g2, g3, g4, g5, g6, g7, g8, g9, g10, g11, g12, g13, g14⟩ := G.out
      exact bodyPost_ret (v := .tuple #[.agg #[.int .u32 0, .int .u32 0, .int .i64 0, .int .u32 0, .int .u32 0, .int .i64 0, .int .i64 0, .bool false, .int .i64 0, .slice none 0 0, .slice none 0 0, .bool false, .slice none 0 0, .slice none 0 0, .int .i64 0], .bool false]) (by simp [results, Tryz.results30, go_sem, g0, g1, g2, g3, g4, g5, g6, g7, g8, g9, g10, g11, g12, g13, g14]) rfl FIN.out

end Go.Proofs.YtddageahmgaigaaGreat

namespace Go.Proofs.YtddageahmgaigaaGreat
open Go.RowKit

theorem fulls_mem {l : List Nb} {r : Int} : r ∈ fulls l ↔ ∃ n ∈ l, n.st = 6 ∧ n.r = r := by
  unfold fulls
  rw [List.mem_map]
  constructor
  · rintro ⟨n, h, rfl⟩
    rw [List.mem_filter] at h
    exact ⟨n, h.1, by simpa using h.2, rfl⟩
  · rintro ⟨n, h1, h2, rfl⟩
    exact ⟨n, by rw [List.mem_filter]; exact ⟨h1, by simpa using h2⟩, rfl⟩
theorem fulls_nil {l : List Nb} (h : ∀ m, (hm : m < l.length) → l[m].st ≠ 6) : fulls l = [] := by
  rw [List.eq_nil_iff_forall_not_mem]
  intro r hr
  obtain ⟨n, h1, h2, -⟩ := fulls_mem.1 hr
  obtain ⟨i, hi, rfl⟩ := List.getElem_of_mem h1
  exact h i hi h2
theorem asc_uniq {l : List Nb} (h : l.Pairwise fun a b => a.r < b.r) {a b : Nb} (ha : a ∈ l) (hb : b ∈ l) (e : a.r = b.r) : a = b := by
  obtain ⟨i, hi, rfl⟩ := List.getElem_of_mem ha
  obtain ⟨j, hj, rfl⟩ := List.getElem_of_mem hb
  have H := List.pairwise_iff_getElem.1 h
  rcases Nat.lt_trichotomy i j with c | c | c
  · have := H i j hi hj c; omega
  · subst c; rfl
  · have := H j i hj hi c; omega
theorem desig_no {rt : Int} {x : Ifc} {nb : List Nb} (hd : x.dr ≠ rt) (h : ∀ n ∈ nb, n.r ≠ x.dr) : desigP rt ⟨x, nb⟩ = none := by
  unfold desigP
  rw [if_neg hd, if_neg]
  intro hm
  obtain ⟨n, h1, -, h3⟩ := fulls_mem.1 hm
  exact h n h1 h3
theorem desig_un {rt : Int} {x : Ifc} {nb : List Nb} (hd : x.dr ≠ rt) (ha : nb.Pairwise fun a b => a.r < b.r) {n : Nb} (hn : n ∈ nb) (h : n.r = x.dr) (hs : n.st ≠ 6) : desigP rt ⟨x, nb⟩ = none := by
  unfold desigP
  rw [if_neg hd, if_neg]
  intro hm
  obtain ⟨m, h1, h2, h3⟩ := fulls_mem.1 hm
  have := asc_uniq ha h1 hn (h3.trans h.symm)
  subst this
  exact hs h2
theorem find_first : ∀ (nb : List Nb) (r : Int) (k : Nat) (c : k < nb.length), nb[k].r = r → (∀ m, (hm : m < k) → (nb[m]'(by omega)).r ≠ r) → nb.find? (fun n => decide (n.r = r)) = some nb[k]
  | a :: l, r, 0, c, h, _ => by simp only [List.getElem_cons_zero] at h ⊢; rw [List.find?_cons_of_pos (by simp [h])]
  | a :: l, r, k + 1, c, h, hm => by
    have h0 := hm 0 (by omega)
    simp only [List.getElem_cons_zero] at h0
    rw [List.find?_cons_of_neg (by simp [h0])]
    simp only [List.getElem_cons_succ] at h ⊢
    exact find_first l r k (by simpa using c) h (fun m hm' => by have := hm (m + 1) (by omega); simpa using this)
theorem desig_yes {rt : Int} {x : Ifc} {nb : List Nb} (hd : x.dr ≠ rt) {k : Nat} (c : k < nb.length) (h : nb[k].r = x.dr) (hm : ∀ m, (hm : m < k) → (nb[m]'(by omega)).r ≠ x.dr) (hs : nb[k].st = 6) : desigP rt ⟨x, nb⟩ = some nb[k].a := by
  unfold desigP
  rw [if_neg hd, if_pos (fulls_mem.2 ⟨nb[k], List.getElem_mem c, hs, h⟩)]
  unfold addrOf
  rw [find_first nb x.dr k c h hm]; rfl

set_option maxHeartbeats 16000000 in
set_option maxRecDepth 100000 in
theorem rdesig_calls (x : Ifc) (nb : List Nb) (rt : Int) (w : World) (hn : NbsAt w (.slice x.na x.nn x.nc) nb) (ha : nb.Pairwise fun a b => a.r < b.r) : Calls Tryz.prog 48 #[.agg (ifE x).toArray, .int .u32 rt] w (DgPost w rt ⟨x, nb⟩) := by
  have FD := Lib.hid (fun W (g : Below w.heap.size w W) => rfind26_calls x nb x.dr W (hn.below g))
  obtain ⟨ga, gc, e1, hlen, hc1⟩ := hn.get
  have HC1 := Lib.hid hc1
  have HA := Lib.hid ha
  clear ha
  obtain ⟨kind, pa, pl, ad, area, cost, prio, hel, dead, up, dr, bdr, el, nh, a1, nn, c1⟩ := x
  simp only at e1
  simp only [Value.slice.injEq] at e1
  obtain ⟨rfl, rfl, rfl⟩ := e1
  have mixed : Tryz.prog.follows .mixedOrders = true := by kernel_rfl
  simp only at FD
  simp only [ifE] at FD ⊢
  clear hn hc1
  obtain ⟨W0, hW0⟩ : ∃ W0, w.alloc (.cells #[.int .i64 kind, .int .u32 pa, .int .i64 pl, .int .u32 ad, .int .u32 area, .int .i64 cost, .int .i64 prio, .int .i64 hel, .int .i64 dead, .bool up, .int .u32 dr, .int .u32 bdr, .int .i64 el, .int .i64 nh, .slice a1 nb.length c1] 69) = W0 := ⟨_, rfl⟩
  have B0 : Hid (Below w.heap.size w W0) := Lib.hid (by rw [← hW0]; exact (Below.refl _ _).alloc (Nat.le_refl _) _)
  have X0 : Hid (W0.heap[w.heap.size]? = some (.cells #[.int .i64 kind, .int .u32 pa, .int .i64 pl, .int .u32 ad, .int .u32 area, .int .i64 cost, .int .i64 prio, .int .i64 hel, .int .i64 dead, .bool up, .int .u32 dr, .int .u32 bdr, .int .i64 el, .int .i64 nh, .slice a1 nb.length c1] 69 (0, 0))) := Lib.hid (by rw [← hW0]; exact alloc_new _ _)
  have HW0 := Lib.hid hW0
  clear hW0
  obtain ⟨⟨⟨d0, d1, d2, d3, d4⟩, ⟨d5, d6, d7, d8, d9⟩, ⟨d10, d11, d12, d13, d14⟩⟩, -⟩ := blk15 X0.out
  go_enter Tryz.func48, Tryz.ntmps48
  go_upto_region 1 with fail
  rw [HW0.out]
  by_cases q : dr = rt
  · subst q
    have E1 : Hid (desigP dr ⟨⟨kind, pa, pl, ad, area, cost, prio, hel, dead, up, dr, bdr, el, nh, a1, nb.length, c1⟩, nb⟩ = if fulls nb = [] then none else some ad) := Lib.hid (by unfold desigP; rw [if_pos rfl])
    clear FD
    go_wp2_with fail
    go_loopw [6] (fun ix wr => ∃ k : Nat, ix = .int .i64 k ∧ k ≤ nb.length ∧ wr = W0 ∧ Hid (∀ m, (hm : m < nb.length) → m < k → nb[m].st ≠ 6)) (fun ix _ => nb.length - (intOf ix).toNat)
    case atStart => exact ⟨0, rfl, Nat.zero_le _, rfl, Lib.hid (fun m _ hm => absurd hm (by omega))⟩
    case round =>
      clear HW0
      obtain ⟨k, rfl, hk, rfl, NO⟩ := hrel
      by_cases c : k < nb.length
      · obtain ⟨b1, o1, rfl, hb1, hcc1⟩ := HC1.out (by omega)
        obtain ⟨⟨n0, n1, n2, n3, n4⟩, ⟨n5, n6, n7, n8, n9⟩, ⟨n10, n11, n12, n13, n14⟩⟩ := (hcc1 k c).below B0.out hb1
        have KC := Lib.hid c
        have i0 : (0 : Int) ≤ (k : Int) := by omega
        have i1 : (k : Int) < (nb.length : Int) := by omega
        have s3 : ((k : Int)).toNat = k := by omega
        by_cases q : nb[k].st = 6
        · have E2 : Hid (desigP dr ⟨⟨kind, pa, pl, ad, area, cost, prio, hel, dead, up, dr, bdr, el, nh, some ⟨b1, o1, none⟩, nb.length, c1⟩, nb⟩ = some ad) := Lib.hid (by
            rw [E1.out, if_neg]
            intro h
            have := fulls_mem.2 ⟨nb[k], List.getElem_mem c, q, rfl⟩
            rw [h] at this; cases this)
          replace n5 := n5.trans (congrArg (fun t => some (Value.int .i64 t)) q)
          clear n0 n1 n2 n3 n4 n6 n7 n8 n9 n10 n11 n12 n13 n14 hcc1 q E1 c
          go_wp2_with fail
          exact bodyPost_ret (v := .tuple #[.int .u32 ad, .bool true]) (by simp [results, Tryz.results48, go_sem]) rfl ⟨ad, true, rfl, E2.out, B0.out⟩
        · have N : Hid (∀ m, (hm : m < nb.length) → m < k + 1 → nb[m].st ≠ 6) := Lib.hid (fun m hm h => by
            rcases Nat.lt_or_ge m k with h' | h'
            · exact NO.out m hm h'
            · obtain rfl : m = k := by omega
              exact q)
          obtain ⟨st, hst⟩ : ∃ st, nb[k].st = st := ⟨_, rfl⟩
          replace n5 := n5.trans (congrArg (fun t => some (Value.int .i64 t)) hst)
          have q' : (st == 6) = false := by rw [← hst]; simpa using q
          clear hst n0 n1 n2 n3 n4 n6 n7 n8 n9 n10 n11 n12 n13 n14 hcc1 q E1 NO
          clear c
          go_wp2_with fail
          go_roundw
          case rel => exact ⟨k + 1, by go_num, KC.out, by first | rfl | trivial, N⟩
          case measure => simp [intOf]; have := KC.out; omega
      · have E2 : Hid (desigP dr ⟨⟨kind, pa, pl, ad, area, cost, prio, hel, dead, up, dr, bdr, el, nh, a1, nb.length, c1⟩, nb⟩ = none) := Lib.hid (by
          rw [E1.out, if_pos (fulls_nil (fun m hm => NO.out m hm (by omega)))])
        obtain rfl : k = nb.length := by omega
        clear NO E1 HC1
        go_wp2_with fail
        exact bodyPost_ret (v := .tuple #[.int .u32 0, .bool false]) (by simp [results, Tryz.results48, go_sem]) rfl ⟨0, false, rfl, E2.out, B0.out⟩
  · have q' : (dr == rt) = false := by simpa using q
    have Q := Lib.hid q
    have F0 := Lib.hid (FD.out W0 B0.out)
    clear FD q
    go_upto_region 8 with fail
    go_wp2_with fail
    refine F0.out.mono ?_
    rintro e w1 ⟨H, B1⟩
    have BB1 := Lib.hid (B0.out.trans (B1.mono B0.out.size))
    clear F0 B1 d0 d1 d2 d3 d4 d5 d6 d7 d8 d9 d10 d11 d12 d13 d14 X0
    rcases H with ⟨rfl, hno⟩ | ⟨n, k, c, rfl, hnk, hr, hm⟩
    · have E2 : Hid (desigP rt ⟨⟨kind, pa, pl, ad, area, cost, prio, hel, dead, up, dr, bdr, el, nh, a1, nb.length, c1⟩, nb⟩ = none) := Lib.hid (desig_no Q.out hno)
      have B2 : Hid (Below w.heap.size w (w1.alloc (.cells (nbE nbZ).toArray 72))) := Lib.hid (BB1.out.alloc BB1.out.size _)
      clear hno Q BB1 B0
      simp only [nbE, nbZ] at B2 ⊢
      go_wp2_with fail
      exact bodyPost_ret (v := .tuple #[.int .u32 0, .bool false]) (by simp [results, Tryz.results48, go_sem]) rfl ⟨0, false, rfl, E2.out, B2.out⟩
    · have E2 : Hid (if n.st = 6 then desigP rt ⟨⟨kind, pa, pl, ad, area, cost, prio, hel, dead, up, dr, bdr, el, nh, a1, nb.length, c1⟩, nb⟩ = some n.a else desigP rt ⟨⟨kind, pa, pl, ad, area, cost, prio, hel, dead, up, dr, bdr, el, nh, a1, nb.length, c1⟩, nb⟩ = none) := Lib.hid (by
        subst hnk
        split
        · next h => exact desig_yes Q.out c hr hm h
        · next h => exact desig_un Q.out HA.out (List.getElem_mem c) hr h)
      have B2 : Hid (∀ v, Below w.heap.size w (w1.alloc v)) := Lib.hid (fun v => BB1.out.alloc BB1.out.size _)
      clear Q BB1 B0 hm hnk hr HA
      obtain ⟨nr, nad, nprio, ndr, nbdr, nst, ntil, nmas, nseq, ⟨v9a, v9n, v9c⟩, ⟨vAa, vAn, vAc⟩, nmore, ⟨vCa, vCn, vCc⟩, ⟨vDa, vDn, vDc⟩, nres⟩ := n
      simp only at E2
      simp only [nbE]
      by_cases q : nst = 6
      · subst q
        have E3 := Lib.hid E2.out
        rw [if_pos rfl] at E3
        clear E2
        go_wp2_with fail
        exact bodyPost_ret (v := .tuple #[.int .u32 nad, .bool true]) (by simp [results, Tryz.results48, go_sem]) rfl ⟨nad, true, rfl, E3.out, B2.out _⟩
      · have E3 := Lib.hid E2.out
        rw [if_neg q] at E3
        have q1 : (nst == 6) = false := by simpa using q
        have q2 : (nst != 6) = true := by simpa using q
        clear E2
        go_wp2_with fail
        exact bodyPost_ret (v := .tuple #[.int .u32 0, .bool false]) (by simp [results, Tryz.results48, go_sem]) rfl ⟨0, false, rfl, E3.out, B2.out _⟩

end Go.Proofs.YtddageahmgaigaaGreat
