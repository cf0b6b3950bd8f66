import Derived.Test.YtddageahmgaigaaGreatC26
namespace Go.Proofs.YtddageahmgaigaaGreat
open Go.RowKit

def nbZ : Nb := ⟨0, 0, 0, 0, 0, 0, 0, false, 0, ⟨none, 0, 0⟩, ⟨none, 0, 0⟩, false, ⟨none, 0, 0⟩, ⟨none, 0, 0⟩, 0⟩
def FfPost (w : World) (nb : List Nb) (r : Int) (e : Ending) (w' : World) : Prop :=
  ((e = .returned (.tuple #[.agg (nbE nbZ).toArray, .bool false]) ∧ ∀ n ∈ nb, n.r ≠ r) ∨ ∃ (n : Nb) (k : Nat) (c : k < nb.length), e = .returned (.tuple #[.agg (nbE n).toArray, .bool true]) ∧ nb[k] = n ∧ n.r = r ∧ ∀ m, (hm : m < k) → (nb[m]'(by omega)).r ≠ r) ∧ Below w.heap.size w w'

set_option maxHeartbeats 16000000 in
set_option maxRecDepth 100000 in
theorem rfind26_calls (x : Ifc) (nb : List Nb) (r : Int) (w : World) (hn : NbsAt w (.slice x.na x.nn x.nc) nb) : Calls Tryz.prog 30 #[.agg (ifE x).toArray, .int .u32 r] w (FfPost w nb r) := by
  obtain ⟨ga, gc, e1, hlen, hc1⟩ := hn.get
  have HC1 := Lib.hid hc1
  obtain ⟨kind, pa, pl, ad, area, cost, prio, hel, dead, up, dr, bdr, el, nh, a1, nn, c1⟩ := x
  simp only at e1
  simp only [Value.slice.injEq] at e1
  obtain ⟨rfl, rfl, rfl⟩ := e1
  simp only [ifE]
  clear hn hc1
  obtain ⟨W0, hW0⟩ : ∃ W0, (w.alloc (.cells #[.int .i64 kind, .int .u32 pa, .int .i64 pl, .int .u32 ad, .int .u32 area, .int .i64 cost, .int .i64 prio, .int .i64 hel, .int .i64 dead, .bool up, .int .u32 dr, .int .u32 bdr, .int .i64 el, .int .i64 nh, .slice a1 nb.length c1] 69)).alloc (.cells #[.int .u32 0, .int .u32 0, .int .i64 0, .int .u32 0, .int .u32 0, .int .i64 0, .int .i64 0, .bool false, .int .i64 0, .slice none 0 0, .slice none 0 0, .bool false, .slice none 0 0, .slice none 0 0, .int .i64 0] 72) = W0 := ⟨_, rfl⟩
  have B0 : Hid (Below w.heap.size w W0) := Lib.hid (by rw [← hW0]; exact ((Below.refl _ _).alloc (Nat.le_refl _) _).alloc (by simp) _)
  have X0 : W0.heap[w.heap.size]? = some (.cells #[.int .i64 kind, .int .u32 pa, .int .i64 pl, .int .u32 ad, .int .u32 area, .int .i64 cost, .int .i64 prio, .int .i64 hel, .int .i64 dead, .bool up, .int .u32 dr, .int .u32 bdr, .int .i64 el, .int .i64 nh, .slice a1 nb.length c1] 69 (0, 0)) := by rw [← hW0]; exact (alloc_get _ _ _ (by simp)).trans (alloc_new _ _)
  have Z0 : Hid (W0.heap[w.heap.size + 1]? = some (.cells #[.int .u32 0, .int .u32 0, .int .i64 0, .int .u32 0, .int .u32 0, .int .i64 0, .int .i64 0, .bool false, .int .i64 0, .slice none 0 0, .slice none 0 0, .bool false, .slice none 0 0, .slice none 0 0, .int .i64 0] 72 (0, 0))) := Lib.hid (by rw [← hW0]; exact blk_new2 w _ _)
  have HW0 := Lib.hid hW0
  have y14 : W0.cell? ⟨w.heap.size, 14, none⟩ = some (.slice a1 nb.length c1) := blk_cell X0 rfl
  clear hW0 X0
  go_enter Tryz.func30, Tryz.ntmps30
  go_upto_region 1 with fail
  rw [HW0.out]
  go_wp2_with fail
  go_loopw [6] (fun ix wr => ∃ k : Nat, ix = .int .i64 k ∧ k ≤ nb.length ∧ wr = W0 ∧ Hid (∀ m, (hm : m < nb.length) → m < k → nb[m].r ≠ r)) (fun ix _ => nb.length - (intOf ix).toNat)
  case atStart => exact ⟨0, rfl, Nat.zero_le _, rfl, Lib.hid (fun m _ hm => absurd hm (by omega))⟩
  case round =>
    clear HW0
    obtain ⟨k, rfl, hk, rfl, NO⟩ := hrel
    by_cases c : k < nb.length
    · obtain ⟨b1, o1, rfl, hb1, hcc1⟩ := HC1.out (by omega)
      obtain ⟨⟨d0, d1, d2, d3, d4⟩, ⟨d5, d6, d7, d8, d9⟩, ⟨d10, d11, d12, d13, d14⟩⟩ := (hcc1 k c).below B0.out hb1
      have KC := Lib.hid c
      have i0 : (0 : Int) ≤ (k : Int) := by omega
      have i1 : (k : Int) < (nb.length : Int) := by omega
      have s3 : ((k : Int)).toNat = k := by omega
      have YES : Hid (∀ n, nb[k] = n → n.r = r → ∀ W, Below w.heap.size w W → FfPost w nb r (.returned (.tuple #[.agg (nbE n).toArray, .bool true])) W) := Lib.hid (fun n e h W g => ⟨.inr ⟨n, k, c, rfl, e, h, fun m hm => NO.out m (by omega) hm⟩, g⟩)
      have NXT : Hid (nb[k].r ≠ r → ∀ m, (hm : m < nb.length) → m < k + 1 → nb[m].r ≠ r) := Lib.hid (fun e m hm h => by
        rcases Nat.lt_or_ge m k with h' | h'
        · exact NO.out m hm h'
        · obtain rfl : m = k := by omega
          exact e)
      clear hcc1 NO
      generalize nb[k] = n at *
      clear c
      have YE := Lib.hid (YES.out n rfl)
      clear YES
      obtain ⟨nr, na, nprio, ndr, nbdr, nst, ntil, nmas, nseq, ⟨v9a, v9n, v9c⟩, ⟨vAa, vAn, vAc⟩, nmore, ⟨vCa, vCn, vCc⟩, ⟨vDa, vDn, vDc⟩, nres⟩ := n
      simp only at d0 d1 d2 d3 d4 d5 d6 d7 d8 d9 d10 d11 d12 d13 d14 NXT
      by_cases q : nr = r
      · subst q
        have Y := Lib.hid (fun W g => YE.out rfl W g)
        clear YE NXT
        obtain ⟨W', hW'⟩ : ∃ W', (((((((((((((((wr).setCell ⟨w.heap.size + 1, 0, none⟩ (.int .u32 nr)).setCell ⟨w.heap.size + 1, 1, none⟩ (.int .u32 na)).setCell ⟨w.heap.size + 1, 2, none⟩ (.int .i64 nprio)).setCell ⟨w.heap.size + 1, 3, none⟩ (.int .u32 ndr)).setCell ⟨w.heap.size + 1, 4, none⟩ (.int .u32 nbdr)).setCell ⟨w.heap.size + 1, 5, none⟩ (.int .i64 nst)).setCell ⟨w.heap.size + 1, 6, none⟩ (.int .i64 ntil)).setCell ⟨w.heap.size + 1, 7, none⟩ (.bool nmas)).setCell ⟨w.heap.size + 1, 8, none⟩ (.int .i64 nseq)).setCell ⟨w.heap.size + 1, 9, none⟩ (.slice v9a v9n v9c)).setCell ⟨w.heap.size + 1, 10, none⟩ (.slice vAa vAn vAc)).setCell ⟨w.heap.size + 1, 11, none⟩ (.bool nmore)).setCell ⟨w.heap.size + 1, 12, none⟩ (.slice vCa vCn vCc)).setCell ⟨w.heap.size + 1, 13, none⟩ (.slice vDa vDn vDc)).setCell ⟨w.heap.size + 1, 14, none⟩ (.int .i64 nres) = W' := ⟨_, rfl⟩
        have bk' : W'.heap[w.heap.size + 1]? = some (.cells #[.int .u32 nr, .int .u32 na, .int .i64 nprio, .int .u32 ndr, .int .u32 nbdr, .int .i64 nst, .int .i64 ntil, .bool nmas, .int .i64 nseq, .slice v9a v9n v9c, .slice vAa vAn vAc, .bool nmore, .slice vCa vCn vCc, .slice vDa vDn vDc, .int .i64 nres] 72 (0, 0)) := by
          rw [← hW']
          have h1 := blk_set (blk_set (blk_set (blk_set (blk_set (blk_set (blk_set (blk_set (blk_set (blk_set (blk_set (blk_set (blk_set (blk_set (blk_set (Z0.out) 0 (.int .u32 nr)) 1 (.int .u32 na)) 2 (.int .i64 nprio)) 3 (.int .u32 ndr)) 4 (.int .u32 nbdr)) 5 (.int .i64 nst)) 6 (.int .i64 ntil)) 7 (.bool nmas)) 8 (.int .i64 nseq)) 9 (.slice v9a v9n v9c)) 10 (.slice vAa vAn vAc)) 11 (.bool nmore)) 12 (.slice vCa vCn vCc)) 13 (.slice vDa vDn vDc)) 14 (.int .i64 nres)
          simp only [List.setIfInBounds_toArray, List.set_cons_zero, List.set_cons_succ] at h1
          exact h1
        have BN : wr.grownBy W' (some (w.heap.size + 1)) := by
          rw [← hW']
          exact grown_grown0 (grown_grown0 (grown_grown0 (grown_grown0 (grown_grown0 (grown_grown0 (grown_grown0 (grown_grown0 (grown_grown0 (grown_grown0 (grown_grown0 (grown_grown0 (grown_grown0 (grown_grown0 (grown_grown0 (⟨rfl, rfl, rfl, Nat.le_refl _, fun _ _ _ => rfl⟩) (grown_set (wr) (w.heap.size + 1) 0 (.int .u32 nr))) (grown_set ((wr).setCell ⟨w.heap.size + 1, 0, none⟩ (.int .u32 nr)) (w.heap.size + 1) 1 (.int .u32 na))) (grown_set (((wr).setCell ⟨w.heap.size + 1, 0, none⟩ (.int .u32 nr)).setCell ⟨w.heap.size + 1, 1, none⟩ (.int .u32 na)) (w.heap.size + 1) 2 (.int .i64 nprio))) (grown_set ((((wr).setCell ⟨w.heap.size + 1, 0, none⟩ (.int .u32 nr)).setCell ⟨w.heap.size + 1, 1, none⟩ (.int .u32 na)).setCell ⟨w.heap.size + 1, 2, none⟩ (.int .i64 nprio)) (w.heap.size + 1) 3 (.int .u32 ndr))) (grown_set (((((wr).setCell ⟨w.heap.size + 1, 0, none⟩ (.int .u32 nr)).setCell ⟨w.heap.size + 1, 1, none⟩ (.int .u32 na)).setCell ⟨w.heap.size + 1, 2, none⟩ (.int .i64 nprio)).setCell ⟨w.heap.size + 1, 3, none⟩ (.int .u32 ndr)) (w.heap.size + 1) 4 (.int .u32 nbdr))) (grown_set ((((((wr).setCell ⟨w.heap.size + 1, 0, none⟩ (.int .u32 nr)).setCell ⟨w.heap.size + 1, 1, none⟩ (.int .u32 na)).setCell ⟨w.heap.size + 1, 2, none⟩ (.int .i64 nprio)).setCell ⟨w.heap.size + 1, 3, none⟩ (.int .u32 ndr)).setCell ⟨w.heap.size + 1, 4, none⟩ (.int .u32 nbdr)) (w.heap.size + 1) 5 (.int .i64 nst))) (grown_set (((((((wr).setCell ⟨w.heap.size + 1, 0, none⟩ (.int .u32 nr)).setCell ⟨w.heap.size + 1, 1, none⟩ (.int .u32 na)).setCell ⟨w.heap.size + 1, 2, none⟩ (.int .i64 nprio)).setCell ⟨w.heap.size + 1, 3, none⟩ (.int .u32 ndr)).setCell ⟨w.heap.size + 1, 4, none⟩ (.int .u32 nbdr)).setCell ⟨w.heap.size + 1, 5, none⟩ (.int .i64 nst)) (w.heap.size + 1) 6 (.int .i64 ntil))) (grown_set ((((((((wr).setCell ⟨w.heap.size + 1, 0, none⟩ (.int .u32 nr)).setCell ⟨w.heap.size + 1, 1, none⟩ (.int .u32 na)).setCell ⟨w.heap.size + 1, 2, none⟩ (.int .i64 nprio)).setCell ⟨w.heap.size + 1, 3, none⟩ (.int .u32 ndr)).setCell ⟨w.heap.size + 1, 4, none⟩ (.int .u32 nbdr)).setCell ⟨w.heap.size + 1, 5, none⟩ (.int .i64 nst)).setCell ⟨w.heap.size + 1, 6, none⟩ (.int .i64 ntil)) (w.heap.size + 1) 7 (.bool nmas))) (grown_set (((((((((wr).setCell ⟨w.heap.size + 1, 0, none⟩ (.int .u32 nr)).setCell ⟨w.heap.size + 1, 1, none⟩ (.int .u32 na)).setCell ⟨w.heap.size + 1, 2, none⟩ (.int .i64 nprio)).setCell ⟨w.heap.size + 1, 3, none⟩ (.int .u32 ndr)).setCell ⟨w.heap.size + 1, 4, none⟩ (.int .u32 nbdr)).setCell ⟨w.heap.size + 1, 5, none⟩ (.int .i64 nst)).setCell ⟨w.heap.size + 1, 6, none⟩ (.int .i64 ntil)).setCell ⟨w.heap.size + 1, 7, none⟩ (.bool nmas)) (w.heap.size + 1) 8 (.int .i64 nseq))) (grown_set ((((((((((wr).setCell ⟨w.heap.size + 1, 0, none⟩ (.int .u32 nr)).setCell ⟨w.heap.size + 1, 1, none⟩ (.int .u32 na)).setCell ⟨w.heap.size + 1, 2, none⟩ (.int .i64 nprio)).setCell ⟨w.heap.size + 1, 3, none⟩ (.int .u32 ndr)).setCell ⟨w.heap.size + 1, 4, none⟩ (.int .u32 nbdr)).setCell ⟨w.heap.size + 1, 5, none⟩ (.int .i64 nst)).setCell ⟨w.heap.size + 1, 6, none⟩ (.int .i64 ntil)).setCell ⟨w.heap.size + 1, 7, none⟩ (.bool nmas)).setCell ⟨w.heap.size + 1, 8, none⟩ (.int .i64 nseq)) (w.heap.size + 1) 9 (.slice v9a v9n v9c))) (grown_set (((((((((((wr).setCell ⟨w.heap.size + 1, 0, none⟩ (.int .u32 nr)).setCell ⟨w.heap.size + 1, 1, none⟩ (.int .u32 na)).setCell ⟨w.heap.size + 1, 2, none⟩ (.int .i64 nprio)).setCell ⟨w.heap.size + 1, 3, none⟩ (.int .u32 ndr)).setCell ⟨w.heap.size + 1, 4, none⟩ (.int .u32 nbdr)).setCell ⟨w.heap.size + 1, 5, none⟩ (.int .i64 nst)).setCell ⟨w.heap.size + 1, 6, none⟩ (.int .i64 ntil)).setCell ⟨w.heap.size + 1, 7, none⟩ (.bool nmas)).setCell ⟨w.heap.size + 1, 8, none⟩ (.int .i64 nseq)).setCell ⟨w.heap.size + 1, 9, none⟩ (.slice v9a v9n v9c)) (w.heap.size + 1) 10 (.slice vAa vAn vAc))) (grown_set ((((((((((((wr).setCell ⟨w.heap.size + 1, 0, none⟩ (.int .u32 nr)).setCell ⟨w.heap.size + 1, 1, none⟩ (.int .u32 na)).setCell ⟨w.heap.size + 1, 2, none⟩ (.int .i64 nprio)).setCell ⟨w.heap.size + 1, 3, none⟩ (.int .u32 ndr)).setCell ⟨w.heap.size + 1, 4, none⟩ (.int .u32 nbdr)).setCell ⟨w.heap.size + 1, 5, none⟩ (.int .i64 nst)).setCell ⟨w.heap.size + 1, 6, none⟩ (.int .i64 ntil)).setCell ⟨w.heap.size + 1, 7, none⟩ (.bool nmas)).setCell ⟨w.heap.size + 1, 8, none⟩ (.int .i64 nseq)).setCell ⟨w.heap.size + 1, 9, none⟩ (.slice v9a v9n v9c)).setCell ⟨w.heap.size + 1, 10, none⟩ (.slice vAa vAn vAc)) (w.heap.size + 1) 11 (.bool nmore))) (grown_set (((((((((((((wr).setCell ⟨w.heap.size + 1, 0, none⟩ (.int .u32 nr)).setCell ⟨w.heap.size + 1, 1, none⟩ (.int .u32 na)).setCell ⟨w.heap.size + 1, 2, none⟩ (.int .i64 nprio)).setCell ⟨w.heap.size + 1, 3, none⟩ (.int .u32 ndr)).setCell ⟨w.heap.size + 1, 4, none⟩ (.int .u32 nbdr)).setCell ⟨w.heap.size + 1, 5, none⟩ (.int .i64 nst)).setCell ⟨w.heap.size + 1, 6, none⟩ (.int .i64 ntil)).setCell ⟨w.heap.size + 1, 7, none⟩ (.bool nmas)).setCell ⟨w.heap.size + 1, 8, none⟩ (.int .i64 nseq)).setCell ⟨w.heap.size + 1, 9, none⟩ (.slice v9a v9n v9c)).setCell ⟨w.heap.size + 1, 10, none⟩ (.slice vAa vAn vAc)).setCell ⟨w.heap.size + 1, 11, none⟩ (.bool nmore)) (w.heap.size + 1) 12 (.slice vCa vCn vCc))) (grown_set ((((((((((((((wr).setCell ⟨w.heap.size + 1, 0, none⟩ (.int .u32 nr)).setCell ⟨w.heap.size + 1, 1, none⟩ (.int .u32 na)).setCell ⟨w.heap.size + 1, 2, none⟩ (.int .i64 nprio)).setCell ⟨w.heap.size + 1, 3, none⟩ (.int .u32 ndr)).setCell ⟨w.heap.size + 1, 4, none⟩ (.int .u32 nbdr)).setCell ⟨w.heap.size + 1, 5, none⟩ (.int .i64 nst)).setCell ⟨w.heap.size + 1, 6, none⟩ (.int .i64 ntil)).setCell ⟨w.heap.size + 1, 7, none⟩ (.bool nmas)).setCell ⟨w.heap.size + 1, 8, none⟩ (.int .i64 nseq)).setCell ⟨w.heap.size + 1, 9, none⟩ (.slice v9a v9n v9c)).setCell ⟨w.heap.size + 1, 10, none⟩ (.slice vAa vAn vAc)).setCell ⟨w.heap.size + 1, 11, none⟩ (.bool nmore)).setCell ⟨w.heap.size + 1, 12, none⟩ (.slice vCa vCn vCc)) (w.heap.size + 1) 13 (.slice vDa vDn vDc))) (grown_set (((((((((((((((wr).setCell ⟨w.heap.size + 1, 0, none⟩ (.int .u32 nr)).setCell ⟨w.heap.size + 1, 1, none⟩ (.int .u32 na)).setCell ⟨w.heap.size + 1, 2, none⟩ (.int .i64 nprio)).setCell ⟨w.heap.size + 1, 3, none⟩ (.int .u32 ndr)).setCell ⟨w.heap.size + 1, 4, none⟩ (.int .u32 nbdr)).setCell ⟨w.heap.size + 1, 5, none⟩ (.int .i64 nst)).setCell ⟨w.heap.size + 1, 6, none⟩ (.int .i64 ntil)).setCell ⟨w.heap.size + 1, 7, none⟩ (.bool nmas)).setCell ⟨w.heap.size + 1, 8, none⟩ (.int .i64 nseq)).setCell ⟨w.heap.size + 1, 9, none⟩ (.slice v9a v9n v9c)).setCell ⟨w.heap.size + 1, 10, none⟩ (.slice vAa vAn vAc)).setCell ⟨w.heap.size + 1, 11, none⟩ (.bool nmore)).setCell ⟨w.heap.size + 1, 12, none⟩ (.slice vCa vCn vCc)).setCell ⟨w.heap.size + 1, 13, none⟩ (.slice vDa vDn vDc)) (w.heap.size + 1) 14 (.int .i64 nres))
        have BW' : Below w.heap.size w W' := B0.out.grown BN B0.out.size (fun j hj => by cases hj; omega)
        have FIN : Hid (FfPost w nb nr (.returned (.tuple #[.agg #[.int .u32 nr, .int .u32 na, .int .i64 nprio, .int .u32 ndr, .int .u32 nbdr, .int .i64 nst, .int .i64 ntil, .bool nmas, .int .i64 nseq, .slice v9a v9n v9c, .slice vAa vAn vAc, .bool nmore, .slice vCa vCn vCc, .slice vDa vDn vDc, .int .i64 nres], .bool true])) W') := Lib.hid (Y.out _ BW')
        have HW' := Lib.hid hW'
        obtain ⟨⟨⟨z0, z1, z2, z3, z4⟩, ⟨z5, z6, z7, z8, z9⟩, ⟨z10, z11, z12, z13, z14⟩⟩, hfz⟩ := blk15 Z0.out
        have zf0 := hfz 0
        have zf1 := hfz 1
        have zf2 := hfz 2
        have zf3 := hfz 3
        have zf4 := hfz 4
        have zf5 := hfz 5
        have zf6 := hfz 6
        have zf7 := hfz 7
        have zf8 := hfz 8
        have zf9 := hfz 9
        have zf10 := hfz 10
        have zf11 := hfz 11
        have zf12 := hfz 12
        have zf13 := hfz 13
        have zf14 := hfz 14
        obtain ⟨⟨⟨g0, g1, g2, g3, g4⟩, ⟨g5, g6, g7, g8, g9⟩, ⟨g10, g11, g12, g13, g14⟩⟩, -⟩ := blk15 bk'
        have G := Lib.hid (And.intro g0 (And.intro g1 (And.intro g2 (And.intro g3 (And.intro g4 (And.intro g5 (And.intro g6 (And.intro g7 (And.intro g8 (And.intro g9 (And.intro g10 (And.intro g11 (And.intro g12 (And.intro g13 g14))))))))))))))
        clear hW' bk' BN BW' hfz g0 g1 g2 g3 g4 g5 g6 g7 g8 g9 g10 g11 g12 g13 g14
        go_wp2_with fail
        rw [HW'.out]
        obtain ⟨g0, g1, g2, g3, g4, g5, g6, g7, g8, g9, g10, g11, g12, g13, g14⟩ := G.out
        exact bodyPost_ret (v := .tuple #[.agg #[.int .u32 nr, .int .u32 na, .int .i64 nprio, .int .u32 ndr, .int .u32 nbdr, .int .i64 nst, .int .i64 ntil, .bool nmas, .int .i64 nseq, .slice v9a v9n v9c, .slice vAa vAn vAc, .bool nmore, .slice vCa vCn vCc, .slice vDa vDn vDc, .int .i64 nres], .bool true]) (by simp [results, Tryz.results30, go_sem, g0, g1, g2, g3, g4, g5, g6, g7, g8, g9, g10, g11, g12, g13, g14]) rfl FIN.out
      · have q' : (nr == r) = false := by simpa using q
        have N := Lib.hid (NXT.out q)
        clear YE NXT q
        go_wp2_with fail
        go_roundw
        case rel => exact ⟨k + 1, by go_num, KC.out, by first | rfl | trivial, N⟩
        case measure => simp [intOf]; have := KC.out; omega
    · have NN : Hid (∀ n ∈ nb, n.r ≠ r) := Lib.hid (fun n hn => by
        obtain ⟨i, hi, rfl⟩ := List.getElem_of_mem hn
        exact NO.out i hi (by omega))
      clear NO HC1
      obtain ⟨W', hW'⟩ : ∃ W', (((((((((((((((wr).setCell ⟨w.heap.size + 1, 0, none⟩ (.int .u32 0)).setCell ⟨w.heap.size + 1, 1, none⟩ (.int .u32 0)).setCell ⟨w.heap.size + 1, 2, none⟩ (.int .i64 0)).setCell ⟨w.heap.size + 1, 3, none⟩ (.int .u32 0)).setCell ⟨w.heap.size + 1, 4, none⟩ (.int .u32 0)).setCell ⟨w.heap.size + 1, 5, none⟩ (.int .i64 0)).setCell ⟨w.heap.size + 1, 6, none⟩ (.int .i64 0)).setCell ⟨w.heap.size + 1, 7, none⟩ (.bool false)).setCell ⟨w.heap.size + 1, 8, none⟩ (.int .i64 0)).setCell ⟨w.heap.size + 1, 9, none⟩ (.slice none 0 0)).setCell ⟨w.heap.size + 1, 10, none⟩ (.slice none 0 0)).setCell ⟨w.heap.size + 1, 11, none⟩ (.bool false)).setCell ⟨w.heap.size + 1, 12, none⟩ (.slice none 0 0)).setCell ⟨w.heap.size + 1, 13, none⟩ (.slice none 0 0)).setCell ⟨w.heap.size + 1, 14, none⟩ (.int .i64 0) = W' := ⟨_, rfl⟩
      have bk' : W'.heap[w.heap.size + 1]? = some (.cells #[.int .u32 0, .int .u32 0, .int .i64 0, .int .u32 0, .int .u32 0, .int .i64 0, .int .i64 0, .bool false, .int .i64 0, .slice none 0 0, .slice none 0 0, .bool false, .slice none 0 0, .slice none 0 0, .int .i64 0] 72 (0, 0)) := by
        rw [← hW']
        have h1 := blk_set (blk_set (blk_set (blk_set (blk_set (blk_set (blk_set (blk_set (blk_set (blk_set (blk_set (blk_set (blk_set (blk_set (blk_set (Z0.out) 0 (.int .u32 0)) 1 (.int .u32 0)) 2 (.int .i64 0)) 3 (.int .u32 0)) 4 (.int .u32 0)) 5 (.int .i64 0)) 6 (.int .i64 0)) 7 (.bool false)) 8 (.int .i64 0)) 9 (.slice none 0 0)) 10 (.slice none 0 0)) 11 (.bool false)) 12 (.slice none 0 0)) 13 (.slice none 0 0)) 14 (.int .i64 0)
        simp only [List.setIfInBounds_toArray, List.set_cons_zero, List.set_cons_succ] at h1
        exact h1
      have BN : wr.grownBy W' (some (w.heap.size + 1)) := by
        rw [← hW']
        exact grown_grown0 (grown_grown0 (grown_grown0 (grown_grown0 (grown_grown0 (grown_grown0 (grown_grown0 (grown_grown0 (grown_grown0 (grown_grown0 (grown_grown0 (grown_grown0 (grown_grown0 (grown_grown0 (grown_grown0 (⟨rfl, rfl, rfl, Nat.le_refl _, fun _ _ _ => rfl⟩) (grown_set (wr) (w.heap.size + 1) 0 (.int .u32 0))) (grown_set ((wr).setCell ⟨w.heap.size + 1, 0, none⟩ (.int .u32 0)) (w.heap.size + 1) 1 (.int .u32 0))) (grown_set (((wr).setCell ⟨w.heap.size + 1, 0, none⟩ (.int .u32 0)).setCell ⟨w.heap.size + 1, 1, none⟩ (.int .u32 0)) (w.heap.size + 1) 2 (.int .i64 0))) (grown_set ((((wr).setCell ⟨w.heap.size + 1, 0, none⟩ (.int .u32 0)).setCell ⟨w.heap.size + 1, 1, none⟩ (.int .u32 0)).setCell ⟨w.heap.size + 1, 2, none⟩ (.int .i64 0)) (w.heap.size + 1) 3 (.int .u32 0))) (grown_set (((((wr).setCell ⟨w.heap.size + 1, 0, none⟩ (.int .u32 0)).setCell ⟨w.heap.size + 1, 1, none⟩ (.int .u32 0)).setCell ⟨w.heap.size + 1, 2, none⟩ (.int .i64 0)).setCell ⟨w.heap.size + 1, 3, none⟩ (.int .u32 0)) (w.heap.size + 1) 4 (.int .u32 0))) (grown_set ((((((wr).setCell ⟨w.heap.size + 1, 0, none⟩ (.int .u32 0)).setCell ⟨w.heap.size + 1, 1, none⟩ (.int .u32 0)).setCell ⟨w.heap.size + 1, 2, none⟩ (.int .i64 0)).setCell ⟨w.heap.size + 1, 3, none⟩ (.int .u32 0)).setCell ⟨w.heap.size + 1, 4, none⟩ (.int .u32 0)) (w.heap.size + 1) 5 (.int .i64 0))) (grown_set (((((((wr).setCell ⟨w.heap.size + 1, 0, none⟩ (.int .u32 0)).setCell ⟨w.heap.size + 1, 1, none⟩ (.int .u32 0)).setCell ⟨w.heap.size + 1, 2, none⟩ (.int .i64 0)).setCell ⟨w.heap.size + 1, 3, none⟩ (.int .u32 0)).setCell ⟨w.heap.size + 1, 4, none⟩ (.int .u32 0)).setCell ⟨w.heap.size + 1, 5, none⟩ (.int .i64 0)) (w.heap.size + 1) 6 (.int .i64 0))) (grown_set ((((((((wr).setCell ⟨w.heap.size + 1, 0, none⟩ (.int .u32 0)).setCell ⟨w.heap.size + 1, 1, none⟩ (.int .u32 0)).setCell ⟨w.heap.size + 1, 2, none⟩ (.int .i64 0)).setCell ⟨w.heap.size + 1, 3, none⟩ (.int .u32 0)).setCell ⟨w.heap.size + 1, 4, none⟩ (.int .u32 0)).setCell ⟨w.heap.size + 1, 5, none⟩ (.int .i64 0)).setCell ⟨w.heap.size + 1, 6, none⟩ (.int .i64 0)) (w.heap.size + 1) 7 (.bool false))) (grown_set (((((((((wr).setCell ⟨w.heap.size + 1, 0, none⟩ (.int .u32 0)).setCell ⟨w.heap.size + 1, 1, none⟩ (.int .u32 0)).setCell ⟨w.heap.size + 1, 2, none⟩ (.int .i64 0)).setCell ⟨w.heap.size + 1, 3, none⟩ (.int .u32 0)).setCell ⟨w.heap.size + 1, 4, none⟩ (.int .u32 0)).setCell ⟨w.heap.size + 1, 5, none⟩ (.int .i64 0)).setCell ⟨w.heap.size + 1, 6, none⟩ (.int .i64 0)).setCell ⟨w.heap.size + 1, 7, none⟩ (.bool false)) (w.heap.size + 1) 8 (.int .i64 0))) (grown_set ((((((((((wr).setCell ⟨w.heap.size + 1, 0, none⟩ (.int .u32 0)).setCell ⟨w.heap.size + 1, 1, none⟩ (.int .u32 0)).setCell ⟨w.heap.size + 1, 2, none⟩ (.int .i64 0)).setCell ⟨w.heap.size + 1, 3, none⟩ (.int .u32 0)).setCell ⟨w.heap.size + 1, 4, none⟩ (.int .u32 0)).setCell ⟨w.heap.size + 1, 5, none⟩ (.int .i64 0)).setCell ⟨w.heap.size + 1, 6, none⟩ (.int .i64 0)).setCell ⟨w.heap.size + 1, 7, none⟩ (.bool false)).setCell ⟨w.heap.size + 1, 8, none⟩ (.int .i64 0)) (w.heap.size + 1) 9 (.slice none 0 0))) (grown_set (((((((((((wr).setCell ⟨w.heap.size + 1, 0, none⟩ (.int .u32 0)).setCell ⟨w.heap.size + 1, 1, none⟩ (.int .u32 0)).setCell ⟨w.heap.size + 1, 2, none⟩ (.int .i64 0)).setCell ⟨w.heap.size + 1, 3, none⟩ (.int .u32 0)).setCell ⟨w.heap.size + 1, 4, none⟩ (.int .u32 0)).setCell ⟨w.heap.size + 1, 5, none⟩ (.int .i64 0)).setCell ⟨w.heap.size + 1, 6, none⟩ (.int .i64 0)).setCell ⟨w.heap.size + 1, 7, none⟩ (.bool false)).setCell ⟨w.heap.size + 1, 8, none⟩ (.int .i64 0)).setCell ⟨w.heap.size + 1, 9, none⟩ (.slice none 0 0)) (w.heap.size + 1) 10 (.slice none 0 0))) (grown_set ((((((((((((wr).setCell ⟨w.heap.size + 1, 0, none⟩ (.int .u32 0)).setCell ⟨w.heap.size + 1, 1, none⟩ (.int .u32 0)).setCell ⟨w.heap.size + 1, 2, none⟩ (.int .i64 0)).setCell ⟨w.heap.size + 1, 3, none⟩ (.int .u32 0)).setCell ⟨w.heap.size + 1, 4, none⟩ (.int .u32 0)).setCell ⟨w.heap.size + 1, 5, none⟩ (.int .i64 0)).setCell ⟨w.heap.size + 1, 6, none⟩ (.int .i64 0)).setCell ⟨w.heap.size + 1, 7, none⟩ (.bool false)).setCell ⟨w.heap.size + 1, 8, none⟩ (.int .i64 0)).setCell ⟨w.heap.size + 1, 9, none⟩ (.slice none 0 0)).setCell ⟨w.heap.size + 1, 10, none⟩ (.slice none 0 0)) (w.heap.size + 1) 11 (.bool false))) (grown_set (((((((((((((wr).setCell ⟨w.heap.size + 1, 0, none⟩ (.int .u32 0)).setCell ⟨w.heap.size + 1, 1, none⟩ (.int .u32 0)).setCell ⟨w.heap.size + 1, 2, none⟩ (.int .i64 0)).setCell ⟨w.heap.size + 1, 3, none⟩ (.int .u32 0)).setCell ⟨w.heap.size + 1, 4, none⟩ (.int .u32 0)).setCell ⟨w.heap.size + 1, 5, none⟩ (.int .i64 0)).setCell ⟨w.heap.size + 1, 6, none⟩ (.int .i64 0)).setCell ⟨w.heap.size + 1, 7, none⟩ (.bool false)).setCell ⟨w.heap.size + 1, 8, none⟩ (.int .i64 0)).setCell ⟨w.heap.size + 1, 9, none⟩ (.slice none 0 0)).setCell ⟨w.heap.size + 1, 10, none⟩ (.slice none 0 0)).setCell ⟨w.heap.size + 1, 11, none⟩ (.bool false)) (w.heap.size + 1) 12 (.slice none 0 0))) (grown_set ((((((((((((((wr).setCell ⟨w.heap.size + 1, 0, none⟩ (.int .u32 0)).setCell ⟨w.heap.size + 1, 1, none⟩ (.int .u32 0)).setCell ⟨w.heap.size + 1, 2, none⟩ (.int .i64 0)).setCell ⟨w.heap.size + 1, 3, none⟩ (.int .u32 0)).setCell ⟨w.heap.size + 1, 4, none⟩ (.int .u32 0)).setCell ⟨w.heap.size + 1, 5, none⟩ (.int .i64 0)).setCell ⟨w.heap.size + 1, 6, none⟩ (.int .i64 0)).setCell ⟨w.heap.size + 1, 7, none⟩ (.bool false)).setCell ⟨w.heap.size + 1, 8, none⟩ (.int .i64 0)).setCell ⟨w.heap.size + 1, 9, none⟩ (.slice none 0 0)).setCell ⟨w.heap.size + 1, 10, none⟩ (.slice none 0 0)).setCell ⟨w.heap.size + 1, 11, none⟩ (.bool false)).setCell ⟨w.heap.size + 1, 12, none⟩ (.slice none 0 0)) (w.heap.size + 1) 13 (.slice none 0 0))) (grown_set (((((((((((((((wr).setCell ⟨w.heap.size + 1, 0, none⟩ (.int .u32 0)).setCell ⟨w.heap.size + 1, 1, none⟩ (.int .u32 0)).setCell ⟨w.heap.size + 1, 2, none⟩ (.int .i64 0)).setCell ⟨w.heap.size + 1, 3, none⟩ (.int .u32 0)).setCell ⟨w.heap.size + 1, 4, none⟩ (.int .u32 0)).setCell ⟨w.heap.size + 1, 5, none⟩ (.int .i64 0)).setCell ⟨w.heap.size + 1, 6, none⟩ (.int .i64 0)).setCell ⟨w.heap.size + 1, 7, none⟩ (.bool false)).setCell ⟨w.heap.size + 1, 8, none⟩ (.int .i64 0)).setCell ⟨w.heap.size + 1, 9, none⟩ (.slice none 0 0)).setCell ⟨w.heap.size + 1, 10, none⟩ (.slice none 0 0)).setCell ⟨w.heap.size + 1, 11, none⟩ (.bool false)).setCell ⟨w.heap.size + 1, 12, none⟩ (.slice none 0 0)).setCell ⟨w.heap.size + 1, 13, none⟩ (.slice none 0 0)) (w.heap.size + 1) 14 (.int .i64 0))
      have BW' : Below w.heap.size w W' := B0.out.grown BN B0.out.size (fun j hj => by cases hj; omega)
      have FIN : Hid (FfPost w nb r (.returned (.tuple #[.agg #[.int .u32 0, .int .u32 0, .int .i64 0, .int .u32 0, .int .u32 0, .int .i64 0, .int .i64 0, .bool false, .int .i64 0, .slice none 0 0, .slice none 0 0, .bool false, .slice none 0 0, .slice none 0 0, .int .i64 0], .bool false])) W') := Lib.hid ⟨.inl ⟨rfl, NN.out⟩, BW'⟩
      have HW' := Lib.hid hW'
      obtain ⟨⟨⟨z0, z1, z2, z3, z4⟩, ⟨z5, z6, z7, z8, z9⟩, ⟨z10, z11, z12, z13, z14⟩⟩, hfz⟩ := blk15 Z0.out
      have zf0 := hfz 0
      have zf1 := hfz 1
      have zf2 := hfz 2
      have zf3 := hfz 3
      have zf4 := hfz 4
      have zf5 := hfz 5
      have zf6 := hfz 6
      have zf7 := hfz 7
      have zf8 := hfz 8
      have zf9 := hfz 9
      have zf10 := hfz 10
      have zf11 := hfz 11
      have zf12 := hfz 12
      have zf13 := hfz 13
      have zf14 := hfz 14
      obtain ⟨⟨⟨g0, g1, g2, g3, g4⟩, ⟨g5, g6, g7, g8, g9⟩, ⟨g10, g11, g12, g13, g14⟩⟩, -⟩ := blk15 bk'
      have G := Lib.hid (And.intro g0 (And.intro g1 (And.intro g2 (And.intro g3 (And.intro g4 (And.intro g5 (And.intro g6 (And.intro g7 (And.intro g8 (And.intro g9 (And.intro g10 (And.intro g11 (And.intro g12 (And.intro g13 g14))))))))))))))
      clear hW' bk' BN BW' hfz g0 g1 g2 g3 g4 g5 g6 g7 g8 g9 g10 g11 g12 g13 g14
      go_wp2_with fail
      rw [HW'.out]
      obtain ⟨g0, g1, g2, g3, g4, g5, g6, g7, g8, g9, g10, g11, g12, g13, g14⟩ := G.out
      exact bodyPost_ret (v := .tuple #[.agg #[.int .u32 0, .int .u32 0, .int .i64 0, .int .u32 0, .int .u32 0, .int .i64 0, .int .i64 0, .bool false, .int .i64 0, .slice none 0 0, .slice none 0 0, .bool false, .slice none 0 0, .slice none 0 0, .int .i64 0], .bool false]) (by simp [results, Tryz.results30, go_sem, g0, g1, g2, g3, g4, g5, g6, g7, g8, g9, g10, g11, g12, g13, g14]) rfl FIN.out

end Go.Proofs.YtddageahmgaigaaGreat

namespace Go.Proofs.YtddageahmgaigaaGreat
open Go.RowKit

end Go.Proofs.YtddageahmgaigaaGreat
