import Derived.Test.YtddageahmgaigaaGreatC26
import Derived.Test.YtddageahmgaigaaGreatOpl
import Derived.Test.YtddageahmgaigaaGreatLks
import Derived.Test.YtddageahmgaigaaGreatLhd
import Derived.Test.YtddageahmgaigaaGreatRtp
import Derived.Test.YtddageahmgaigaaGreatMem
import Derived.Deep.DeepCutAuto
namespace Go.Proofs.YtddageahmgaigaaGreat
open Go.RowKit

set_option maxHeartbeats 8000000 in
set_option maxRecDepth 100000 in
theorem links_stub (x : Ifc) (rt : Int) (w : World) (hk : x.kind = 3) (hp0 : 0 ≤ x.pl) (hp1 : x.pl < 4294967296) : Calls Tryz.prog 39 #[.agg (ifE x).toArray, .int .u32 rt] w (LksPost w [stubL x]) := by
  have HX : True := trivial
  obtain ⟨_, pa, pl, ad, area, cost, prio, hel, dead, up, dr, bdr, el, nh, na, nn, nc⟩ := x
  simp only at hk
  subst hk
  simp only at hp0 hp1 HX
  have cv : IntKind.wrap .u32 pl = pl := by simp [IntKind.wrap, IntKind.bits, IntKind.signed]; omega
  obtain ⟨W0, hW0⟩ : ∃ W0, w.alloc (.cells (ifE ⟨3, pa, pl, ad, area, cost, prio, hel, dead, up, dr, bdr, el, nh, na, nn, nc⟩).toArray 69) = W0 := ⟨_, rfl⟩
  have b0 : W0.heap[w.heap.size]? = some (.cells #[.int .i64 3, .int .u32 pa, .int .i64 pl, .int .u32 ad, .int .u32 area, .int .i64 cost, .int .i64 prio, .int .i64 hel, .int .i64 dead, .bool up, .int .u32 dr, .int .u32 bdr, .int .i64 el, .int .i64 nh, .slice na nn nc] 69 (0, 0)) := by rw [← hW0]; exact alloc_new w _
  have B0 : Hid (Below w.heap.size w W0) := Lib.hid (by rw [← hW0]; exact (Below.refl _ _).alloc (Nat.le_refl _) _)
  have HW0 := Lib.hid hW0
  clear hW0
  obtain ⟨⟨⟨y0, y1, y2, y3, y4⟩, ⟨y5, y6, y7, y8, y9⟩, ⟨y10, y11, y12, y13, y14⟩⟩, -⟩ := blk15 b0
  have H0 := Lib.hid b0
  clear b0
  go_enter Tryz.func39, Tryz.ntmps39
  go_upto_region 1 with fail
  rw [HW0.out]
  go_upto_region 2 with fail
  generalize hW1 : W0.alloc _ = W1
  have b1 : W1.heap[W0.heap.size]? = some (.cells #[.int .i64 3, .int .u32 pa, .int .i64 pl, .int .u32 ad, .int .u32 area, .int .i64 cost, .int .i64 prio, .int .i64 hel, .int .i64 dead] 66 (0, 0)) := by rw [← hW1]; exact alloc_new _ _
  have B1 : Hid (Below w.heap.size w W1) := Lib.hid (by rw [← hW1]; exact B0.out.alloc B0.out.size _)
  have H1 : Hid (W1.heap[w.heap.size]? = some (.cells #[.int .i64 3, .int .u32 pa, .int .i64 pl, .int .u32 ad, .int .u32 area, .int .i64 cost, .int .i64 prio, .int .i64 hel, .int .i64 dead, .bool up, .int .u32 dr, .int .u32 bdr, .int .i64 el, .int .i64 nh, .slice na nn nc] 69 (0, 0))) := Lib.hid (by rw [← hW1]; exact (alloc_get _ _ _ (blk_lt H0.out)).trans H0.out)
  have c0 : W1.cell? ⟨W0.heap.size, 0, none⟩ = some (.int .i64 3) := blk_cell b1 rfl
  have c1 : W1.cell? ⟨W0.heap.size, 1, none⟩ = some (.int .u32 pa) := blk_cell b1 rfl
  have c2 : W1.cell? ⟨W0.heap.size, 2, none⟩ = some (.int .i64 pl) := blk_cell b1 rfl
  have c3 : W1.cell? ⟨W0.heap.size, 3, none⟩ = some (.int .u32 ad) := blk_cell b1 rfl
  have c5 : W1.cell? ⟨W0.heap.size, 5, none⟩ = some (.int .i64 cost) := blk_cell b1 rfl
  have G1 := Lib.hid b1
  clear hW1 b1 y0 y1 y2 y3 y4 y5 y6 y7 y8 y9 y10 y11 y12 y13 y14 B0 H0
  go_upto_region 3 with fail
  generalize hW2 : W1.alloc _ = W2
  have b2 : W2.heap[W1.heap.size]? = some (.cells #[.int .i64 3, .int .u32 pa, .int .u32 pl, .int .i64 cost] 82 (0, 0)) := by rw [← hW2]; exact alloc_new _ _
  have B2 : Hid (Below w.heap.size w W2) := Lib.hid (by rw [← hW2]; exact B1.out.alloc B1.out.size _)
  have H2 : Hid (W2.heap[w.heap.size]? = some (.cells #[.int .i64 3, .int .u32 pa, .int .i64 pl, .int .u32 ad, .int .u32 area, .int .i64 cost, .int .i64 prio, .int .i64 hel, .int .i64 dead, .bool up, .int .u32 dr, .int .u32 bdr, .int .i64 el, .int .i64 nh, .slice na nn nc] 69 (0, 0))) := Lib.hid (by rw [← hW2]; exact (alloc_get _ _ _ (blk_lt H1.out)).trans H1.out)
  have G2 : Hid (W2.heap[W0.heap.size]? = some (.cells #[.int .i64 3, .int .u32 pa, .int .i64 pl, .int .u32 ad, .int .u32 area, .int .i64 cost, .int .i64 prio, .int .i64 hel, .int .i64 dead] 66 (0, 0))) := Lib.hid (by rw [← hW2]; exact (alloc_get _ _ _ (blk_lt G1.out)).trans G1.out)
  have e0 : W2.cell? ⟨W1.heap.size, 0, none⟩ = some (.int .i64 3) := blk_cell b2 rfl
  have e1 : W2.cell? ⟨W1.heap.size, 1, none⟩ = some (.int .u32 pa) := blk_cell b2 rfl
  have e2 : W2.cell? ⟨W1.heap.size, 2, none⟩ = some (.int .u32 pl) := blk_cell b2 rfl
  have e3 : W2.cell? ⟨W1.heap.size, 3, none⟩ = some (.int .i64 cost) := blk_cell b2 rfl
  have k0 : W2.cell? ⟨W0.heap.size, 0, none⟩ = some (.int .i64 3) := blk_cell G2.out rfl
  clear hW2 b2 c0 c1 c2 c3 c5 H1 G1 B1
  obtain ⟨W3, hW3⟩ : ∃ W3, W2.alloc (.cells #[.int .i64 3, .int .u32 pa, .int .u32 pl, .int .i64 cost] 82) = W3 := ⟨_, rfl⟩
  have FIN : Hid (LksPost w [stubL ⟨3, pa, pl, ad, area, cost, prio, hel, dead, up, dr, bdr, el, nh, na, nn, nc⟩] (.returned (.slice (some ⟨W2.heap.size, 0, none⟩) 1 1)) W3) := Lib.hid ⟨_, rfl, by rw [← hW3]; exact sl_one (vals := lnkE ⟨3, pa, pl, cost⟩), (fun b off n c e => by cases e; exact B2.out.size), by rw [← hW3]; exact B2.out.alloc B2.out.size _⟩
  have HW3 := Lib.hid hW3
  clear hW3
  go_wp2_with fail
  rw [HW3.out]
  go_ret
  exact FIN.out

set_option maxHeartbeats 4000000 in
theorem idx32_calls (w : World) (v : Value) (l : List Int) (h : WordsAt w v l) (hl : l.length ≤ 1048576) (r : Int) : Calls Tryz.prog 145 #[v, .int .u32 r] w (InPost w l r) := by
  obtain ⟨a, cap, rfl, hc⟩ := h.get
  have HC := Lib.hid hc
  clear h hc
  go_enter Tryz.func145, Tryz.ntmps145
  go_wp2_with fail
  go_loopw [8, 5] (fun ix _ wr => ∃ k : Nat, ix = .int .i64 k ∧ k ≤ l.length ∧ Hid (Gr w wr ∧ ∀ m, (hm : m < l.length) → m < k → l[m] ≠ r)) (fun ix _ _ => l.length - (intOf ix).toNat)
  case atStart => exact ⟨0, rfl, Nat.zero_le _, Lib.hid ⟨Gr.refl _, fun m _ hm => absurd hm (by omega)⟩⟩
  case round =>
    obtain ⟨k, rfl, hk, R⟩ := hrel
    by_cases c : k < l.length
    · obtain ⟨b, off, rfl, hb, hcc⟩ := HC.out (by omega)
      have d0 : wr.cell? ⟨b, off + k, none⟩ = some (.int .u32 l[k]) := (World.cell?_of_block (R.out.1.b.block b hb)).trans (hcc k c)
      have KC := Lib.hid c
      have i0 : (0 : Int) ≤ (k : Int) := by omega
      have i1 : (k : Int) < (l.length : Int) := by omega
      have s3 : ((k : Int)).toNat = k := by omega
      have YES : Hid (l[k] = r → InPost w l r (.returned (.int .i64 (k : Int))) wr) := Lib.hid (fun e => ⟨k, rfl, ⟨fun _ => e ▸ List.getElem_mem c, fun _ => by omega⟩, R.out.1⟩)
      have NXT : Hid (l[k] ≠ r → (Gr w wr ∧ ∀ m, (hm : m < l.length) → m < k + 1 → l[m] ≠ r)) := Lib.hid (fun e => ⟨R.out.1, fun m hm h => by
        rcases Nat.lt_or_ge m k with h' | h'
        · exact R.out.2 m hm h'
        · obtain rfl : m = k := by omega
          exact e⟩)
      clear hcc
      generalize l[k] = x at *
      clear c
      by_cases q : x = r
      · subst q
        have Y := Lib.hid (YES.out rfl)
        clear YES NXT
        go_wp2_with fail
        go_ret
        exact Y.out
      · have q' : (r == x) = false := by simpa using fun h : r = x => q h.symm
        have N := Lib.hid (NXT.out q)
        clear YES NXT q
        go_wp2_with fail
        go_roundw
        case rel => exact ⟨k + 1, by go_num, KC.out, N⟩
        case measure => simp [intOf]; have := KC.out; omega
    · have E : Hid (InPost w l r (.returned (.int .i64 (-1))) wr) := Lib.hid ⟨-1, rfl, ⟨fun h => by omega, fun h => by
        obtain ⟨i, hi, e⟩ := List.getElem_of_mem h
        exact absurd e (R.out.2 i hi (by omega))⟩, R.out.1⟩
      clear R
      go_wp2_with fail
      go_ret
      exact E.out

set_option maxHeartbeats 2000000 in
theorem has32_calls (w : World) (v : Value) (l : List Int) (h : WordsAt w v l) (hl : l.length ≤ 1048576) (r : Int) : Calls Tryz.prog 103 #[v, .int .u32 r] w fun e w' => e = .returned (.bool (decide (r ∈ l))) ∧ Gr w w' := by
  have IC := Lib.hid (idx32_calls w v l h hl r)
  obtain ⟨a, cap, rfl, -⟩ := h.get
  clear h
  go_enter Tryz.func103, Tryz.ntmps103
  go_wp2_with fail
  refine IC.out.mono ?_
  rintro e w1 ⟨i, rfl, hi, G1⟩
  have HG := Lib.hid G1
  by_cases q : r ∈ l
  · have g0 : decide (0 ≤ i) = true := decide_eq_true (hi.2 q)
    have e1 : decide (r ∈ l) = true := decide_eq_true q
    have E1 := Lib.hid e1
    clear hi q G1 e1
    go_wp2_with fail
    go_ret
    exact ⟨by rw [E1.out]; rfl, HG.out⟩
  · have g0 : decide (0 ≤ i) = false := decide_eq_false (fun h => q (hi.1 h))
    have e1 : decide (r ∈ l) = false := decide_eq_false q
    have E1 := Lib.hid e1
    clear hi q G1 e1
    go_wp2_with fail
    go_ret
    exact ⟨by rw [E1.out]; rfl, HG.out⟩

set_option maxHeartbeats 4000000 in
theorem nbis_calls (n : Nb) (r : Int) (w : World) (rb : Nat) (hr : w.heap[rb]? = some (.cells #[.int .u32 r] 22 (0, 0))) :
    Calls Tryz.prog 170 #[.agg (nbE n).toArray, .pointer (some ⟨rb, 0, none⟩)] w fun e w' => e = .returned (.bool (decide (n.r = r))) ∧ Gr w w' := by
  obtain ⟨nr, na, nprio, ndr, nbdr, nst, ntil, nmas, nseq, ⟨v9a, v9n, v9c⟩, ⟨vAa, vAn, vAc⟩, nmore, ⟨vCa, vCn, vCc⟩, ⟨vDa, vDn, vDc⟩, nres⟩ := n
  obtain ⟨W0, hW0⟩ : ∃ W0, w.alloc (.cells (nbE ⟨nr, na, nprio, ndr, nbdr, nst, ntil, nmas, nseq, ⟨v9a, v9n, v9c⟩, ⟨vAa, vAn, vAc⟩, nmore, ⟨vCa, vCn, vCc⟩, ⟨vDa, vDn, vDc⟩, nres⟩).toArray 72) = W0 := ⟨_, rfl⟩
  have b0 : W0.heap[w.heap.size]? = some (.cells (nbE ⟨nr, na, nprio, ndr, nbdr, nst, ntil, nmas, nseq, ⟨v9a, v9n, v9c⟩, ⟨vAa, vAn, vAc⟩, nmore, ⟨vCa, vCn, vCc⟩, ⟨vDa, vDn, vDc⟩, nres⟩).toArray 72 (0, 0)) := by rw [← hW0]; exact alloc_new w _
  have G0 : Hid (Gr w W0) := Lib.hid (by rw [← hW0]; exact (Gr.refl _).alloc _)
  have r0 : W0.cell? ⟨rb, 0, none⟩ = some (.int .u32 r) := blk_cell ((G0.out.b.block rb (blk_lt hr)).trans hr) rfl
  have n0 : W0.cell? ⟨w.heap.size, 0, none⟩ = some (.int .u32 nr) := blk_cell b0 rfl
  have HW0 := Lib.hid hW0
  clear hW0 b0 hr
  by_cases q : nr = r
  · subst q
    go_enter Tryz.func170, Tryz.ntmps170
    go_upto_region 1 with fail
    rw [HW0.out]
    go_wp2_with fail
    go_ret
    exact ⟨by simp, G0.out⟩
  · have q' : (nr == r) = false := by simpa using q
    have e : decide (nr = r) = false := decide_eq_false q
    simp only [e]
    go_enter Tryz.func170, Tryz.ntmps170
    go_upto_region 1 with fail
    rw [HW0.out]
    go_wp2_with fail
    go_ret
    exact ⟨rfl, G0.out⟩

set_option maxHeartbeats 8000000 in
set_option maxRecDepth 100000 in
theorem nindex_calls (w : World) (v : Value) (l : List Nb) (h : NbsAt w v l) (r : Int) (rb : Nat) (hr : w.heap[rb]? = some (.cells #[.int .u32 r] 22 (0, 0))) :
    Calls Tryz.prog 169 #[v, .func (.func 170) #[] #[.pointer (some ⟨rb, 0, none⟩)]] w (PlPost w l r) := by
  obtain ⟨a, cap, rfl, hl, hc⟩ := h.get
  have HC := Lib.hid hc
  have T1 := Lib.hid (fun n W (G : Gr w W) => nbis_calls n r W rb ((G.b.block rb (blk_lt hr)).trans hr))
  clear h hc hr
  go_enter Tryz.func169, Tryz.ntmps169
  go_wp2_with fail
  go_loopw [8, 5] (fun ix _ wr => ∃ k : Nat, ix = .int .i64 k ∧ k ≤ l.length ∧ Hid (Gr w wr ∧ ∀ m, (hm : m < l.length) → m < k → l[m].r ≠ r)) (fun ix _ _ => l.length - (intOf ix).toNat)
  case atStart => exact ⟨0, rfl, Nat.zero_le _, Lib.hid ⟨Gr.refl _, fun m _ hm => absurd hm (by omega)⟩⟩
  case round =>
    obtain ⟨k, rfl, hk, R⟩ := hrel
    by_cases c : k < l.length
    · obtain ⟨b, off, rfl, hb, hcc⟩ := HC.out (by omega)
      obtain ⟨⟨d0, d1, d2, d3, d4⟩, ⟨d5, d6, d7, d8, d9⟩, ⟨d10, d11, d12, d13, d14⟩⟩ := (hcc k c).below R.out.1.b hb
      have TC := Lib.hid (T1.out l[k] wr R.out.1)
      have KC := Lib.hid c
      have i0 : (0 : Int) ≤ (k : Int) := by omega
      have i1 : (k : Int) < (l.length : Int) := by omega
      have s3 : ((k : Int)).toNat = k := by omega
      have YES : Hid (decide (l[k].r = r) = true → ∀ W, Gr w W → PlPost w l r (.returned (.int .i64 (k : Int))) W) := Lib.hid (fun e W g => ⟨k, rfl, .inr ⟨k, c, rfl, of_decide_eq_true e, fun m hm => R.out.2 m (by omega) hm⟩, g⟩)
      have NXT : Hid (decide (l[k].r = r) = false → ∀ W, Gr w W → (Gr w W ∧ ∀ m, (hm : m < l.length) → m < k + 1 → l[m].r ≠ r)) := Lib.hid (fun e W g => ⟨g, fun m hm h => by
        rcases Nat.lt_or_ge m k with h' | h'
        · exact R.out.2 m hm h'
        · obtain rfl : m = k := by omega
          exact of_decide_eq_false e⟩)
      clear hcc
      generalize l[k] = n at *
      clear c
      generalize decide (n.r = r) = lb at *
      obtain ⟨nr, na, nprio, ndr, nbdr, nst, ntil, nmas, nseq, ⟨v9a, v9n, v9c⟩, ⟨vAa, vAn, vAc⟩, nmore, ⟨vCa, vCn, vCc⟩, ⟨vDa, vDn, vDc⟩, nres⟩ := n
      simp only at d0 d1 d2 d3 d4 d5 d6 d7 d8 d9 d10 d11 d12 d13 d14
      simp only [nbE] at TC
      go_wp2_with fail
      refine TC.out.mono ?_
      rintro e w1 ⟨rfl, G1⟩
      have HG := Lib.hid (R.out.1.trans G1)
      clear G1 TC d0 d1 d2 d3 d4 d5 d6 d7 d8 d9 d10 d11 d12 d13 d14
      cases lb with
      | true =>
        have Y := Lib.hid (YES.out rfl _ HG.out)
        clear YES NXT
        go_wp2_with fail
        go_ret
        exact Y.out
      | false =>
        have N := Lib.hid (NXT.out rfl _ HG.out)
        clear YES NXT
        go_wp2_with fail
        go_roundw
        case rel => exact ⟨k + 1, by go_num, KC.out, N⟩
        case measure => simp [intOf]; have := KC.out; omega
    · have E : Hid (PlPost w l r (.returned (.int .i64 (-1))) wr) := Lib.hid ⟨-1, rfl, .inl ⟨rfl, fun n hn => by
        obtain ⟨i, hi, rfl⟩ := List.getElem_of_mem hn
        exact R.out.2 i hi (by omega)⟩, R.out.1⟩
      clear R
      go_wp2_with fail
      go_ret
      exact E.out

set_option maxHeartbeats 4000000 in
set_option maxRecDepth 100000 in
theorem place_calls (x : Ifc) (nb : List Nb) (r : Int) (w : World) (hn : NbsAt w (.slice x.na x.nn x.nc) nb) : Calls Tryz.prog 143 #[.agg (ifE x).toArray, .int .u32 r] w (PlPost w nb r) := by
  obtain ⟨kind, pa, pl, ad, area, cost, prio, hel, dead, up, dr, bdr, el, nh, na, nn, nc⟩ := x
  obtain ⟨W0, hW0⟩ : ∃ W0, (w.alloc (.cells (ifE ⟨kind, pa, pl, ad, area, cost, prio, hel, dead, up, dr, bdr, el, nh, na, nn, nc⟩).toArray 69)).alloc (.cells #[.int .u32 r] 22) = W0 := ⟨_, rfl⟩
  have b0 : W0.heap[w.heap.size]? = some (.cells (ifE ⟨kind, pa, pl, ad, area, cost, prio, hel, dead, up, dr, bdr, el, nh, na, nn, nc⟩).toArray 69 (0, 0)) := by rw [← hW0]; exact (alloc_get _ _ _ (by simp)).trans (alloc_new w _)
  have b1 : W0.heap[w.heap.size + 1]? = some (.cells #[.int .u32 r] 22 (0, 0)) := by rw [← hW0]; exact blk_new2 w _ _
  have G0 : Hid (Gr w W0) := Lib.hid (by rw [← hW0]; exact ((Gr.refl _).alloc _).alloc _)
  have IC := Lib.hid (nindex_calls W0 _ nb (hn.below G0.out.b) r _ b1)
  have y14 : W0.cell? ⟨w.heap.size, 14, none⟩ = some (.slice na nn nc) := blk_cell b0 rfl
  have HW0 := Lib.hid hW0
  clear hW0 b0 b1 hn
  go_enter Tryz.func143, Tryz.ntmps143
  go_upto_region 1 with fail
  rw [HW0.out]
  go_wp2_with fail
  refine IC.out.mono ?_
  rintro e w1 ⟨i, rfl, hi, G1⟩
  have FIN : Hid (PlPost w nb r (.returned (.int .i64 i)) w1) := Lib.hid ⟨i, rfl, hi, G0.out.trans G1⟩
  clear hi G1 y14
  go_wp2_with fail
  go_ret
  exact FIN.out

theorem Tryz.infoHdr : (Tryz.prog.info? 37).map (fun i => (i.zero, i.size, i.bytes)) = some (some (.agg #[.int .i64 0, .int .u32 0, .int .i64 0, .int .u32 0, .int .i64 0, .int .i64 0, .int .i64 0]), 7, 56) := by kernel_rfl

set_option maxHeartbeats 2000000 in
set_option maxRecDepth 100000 in
theorem hclone_calls (w : World) (sa : Option Addr) (sn sc : Nat) (h : HdsAt w (.slice sa sn sc)) (hn : sn ≤ 1048576) :
    Calls Tryz.prog 171 #[.slice sa sn sc] w (HcPost w) := by
  obtain ⟨i0, hi, hz0, hz1, hz2⟩ := info_parts Tryz.infoHdr
  have HI := Lib.hid hi
  have HZ0 := Lib.hid hz0
  have HZ1 := Lib.hid hz1
  have HZ2 := Lib.hid hz2
  clear hi hz0 hz1 hz2
  obtain ⟨css, h, hlen, hone⟩ := h
  have H := Lib.hid h
  obtain ⟨a, cap, e0, h1, h2, h3, h4⟩ := h
  simp only [Value.slice.injEq] at e0
  obtain ⟨rfl, rfl, rfl⟩ := e0
  have K1 : Hid (0 + css.length ≤ maxLen) := Lib.hid (by unfold maxLen; omega)
  have K2 : Hid ((0 + css.length) * 56 ≤ 140737488355328) := Lib.hid (by omega)
  have HL := Lib.hid hlen
  have HO := Lib.hid hone
  clear hn h2 h4 hlen hone
  cases sa with
  | none =>
    have c0 := h3 rfl
    have l0 : css.length = 0 := by omega
    have l1 : css = [] := List.length_eq_zero_iff.1 l0
    subst l1
    subst c0
    have E : Hid (HcPost w (.returned (.slice none 0 0)) w) := Lib.hid ⟨none, 0, 0, rfl, Below.refl _ _⟩
    clear h1 h3 l0 H K1 K2 HL HO
    simp only [List.length_nil]
    have NL := fun W => Lib.run_eql_slice_nil (P := Tryz.prog) W 70 37 none 0 0 0 0 Tryz.underlying70
    go_enter Tryz.func171, Tryz.ntmps171
    go_wp2_with fail
    go_ret
    exact E.out
  | some ad =>
    clear h1 h3
    have NL := fun W => Lib.run_eql_slice_nil (P := Tryz.prog) W 70 37 (some ad) css.length sc 0 0 Tryz.underlying70
    have O0 : Hid ((w.alloc (.cells #[] 37)).ownsRow w.heap.size 37 7 (.slice (some ⟨w.heap.size, 0, none⟩) 0 0) 0 []) := Lib.hid (World.ownsRow_made w #[] 0 (Nat.le_refl _) (by unfold maxLen; omega) rfl)
    have HA := Lib.hid (SlV.below H.out ((Below.refl _ _).alloc (Nat.le_refl _) (.cells #[] 37)))
    have B0 : Hid (Below w.heap.size w (w.alloc (.cells #[] 37))) := Lib.hid ((Below.refl _ _).alloc (Nat.le_refl _) _)
    clear H
    go_enter Tryz.func171, Tryz.ntmps171
    go_wp2_with (at_builtin; refine wpList_append_sl rfl _ _ _ rfl w.heap.size 37 i0 _ 7 56 Tryz.underlying70 HI.out HZ0.out HZ1.out HZ2.out rfl (by decide) _ 0 [] rfl O0.out _ css rfl HA.out HL.out HO.out K1.out K2.out (by simp) ?_; intro v' w2 O2 G2; have PO := Lib.hid (show HcPost w (.returned v') w2 from by
      rcases own_cases O2 with ⟨rfl, -⟩ | ⟨g, cap, cur, rfl, -⟩
      · exact ⟨none, 0, 0, rfl, B0.out.grown G2 B0.out.size (fun j hj => (World.ownsRow.lt O0.out j hj).1)⟩
      · exact ⟨_, _, _, rfl, B0.out.grown G2 B0.out.size (fun j hj => (World.ownsRow.lt O0.out j hj).1)⟩); clear O2 G2)
    go_ret
    exact PO.out

set_option maxHeartbeats 16000000 in
set_option maxRecDepth 100000 in
theorem cloneNb_calls (n : Nb) (w : World) (h : NbIn w n) (h9 : n.v9.n ≤ 1048576) (hA : n.v10.n ≤ 1048576) (hC : n.v12.n ≤ 1048576) (hD : n.v13.n ≤ 1048576) : Calls Tryz.prog 144 #[.agg (nbE n).toArray] w (CnPost w n) := by
  obtain ⟨nr, na, nprio, ndr, nbdr, nst, ntil, nmas, nseq, ⟨v9a, v9n, v9c⟩, ⟨vAa, vAn, vAc⟩, nmore, ⟨vCa, vCn, vCc⟩, ⟨vDa, vDn, vDc⟩, nres⟩ := n
  simp only at h9 hA hC hD
  have K9 := Lib.hid (fun W (g : Below w.heap.size w W) => hclone_calls W v9a v9n v9c (h.h9.below g) h9)
  have KA := Lib.hid (fun W (g : Below w.heap.size w W) => hclone_calls W vAa vAn vAc (h.h10.below g) hA)
  have KC := Lib.hid (fun W (g : Below w.heap.size w W) => hclone_calls W vCa vCn vCc (h.h12.below g) hC)
  have KD := Lib.hid (fun W (g : Below w.heap.size w W) => hclone_calls W vDa vDn vDc (h.h13.below g) hD)
  clear h h9 hA hC hD
  obtain ⟨W0, hW0⟩ : ∃ W0, (w.alloc (.cells #[.int .u32 nr, .int .u32 na, .int .i64 nprio, .int .u32 ndr, .int .u32 nbdr, .int .i64 nst, .int .i64 ntil, .bool nmas, .int .i64 nseq, .slice v9a v9n v9c, .slice vAa vAn vAc, .bool nmore, .slice vCa vCn vCc, .slice vDa vDn vDc, .int .i64 nres] 72)).alloc (.cells #[.int .u32 0, .int .u32 0, .int .i64 0, .int .u32 0, .int .u32 0, .int .i64 0, .int .i64 0, .bool false, .int .i64 0, .slice none 0 0, .slice none 0 0, .bool false, .slice none 0 0, .slice none 0 0, .int .i64 0] 72) = W0 := ⟨_, rfl⟩
  have B0 : Hid (Below w.heap.size w W0) := Lib.hid (by rw [← hW0]; exact ((Below.refl _ _).alloc (Nat.le_refl _) _).alloc (by simp) _)
  have X0 : Hid (W0.heap[w.heap.size]? = some (.cells #[.int .u32 nr, .int .u32 na, .int .i64 nprio, .int .u32 ndr, .int .u32 nbdr, .int .i64 nst, .int .i64 ntil, .bool nmas, .int .i64 nseq, .slice v9a v9n v9c, .slice vAa vAn vAc, .bool nmore, .slice vCa vCn vCc, .slice vDa vDn vDc, .int .i64 nres] 72 (0, 0))) := Lib.hid (by rw [← hW0]; exact (alloc_get _ _ _ (by simp)).trans (alloc_new _ _))
  have Z0 : Hid (W0.heap[w.heap.size + 1]? = some (.cells #[.int .u32 0, .int .u32 0, .int .i64 0, .int .u32 0, .int .u32 0, .int .i64 0, .int .i64 0, .bool false, .int .i64 0, .slice none 0 0, .slice none 0 0, .bool false, .slice none 0 0, .slice none 0 0, .int .i64 0] 72 (0, 0))) := Lib.hid (by rw [← hW0]; exact blk_new2 w _ _)
  have HW0 := Lib.hid hW0
  clear hW0
  have C9 := Lib.hid (fun W (g : Below W0.heap.size W0 W) => K9.out W (B0.out.trans (g.mono B0.out.size)))
  have CA := Lib.hid (fun W (g : Below W0.heap.size W0 W) => KA.out W (B0.out.trans (g.mono B0.out.size)))
  have m9 : W0.cell? ⟨w.heap.size, 9, none⟩ = some (.slice v9a v9n v9c) := blk_cell X0.out rfl
  have m10 : W0.cell? ⟨w.heap.size, 10, none⟩ = some (.slice vAa vAn vAc) := blk_cell X0.out rfl
  simp only [nbE]
  go_enter Tryz.func144, Tryz.ntmps144
  go_upto_region 1 with fail
  rw [HW0.out]
  go_cut [] (fun wx => ∃ a9 n9 c9 aA nA cA, CnM w #[.int .u32 nr, .int .u32 na, .int .i64 nprio, .int .u32 ndr, .int .u32 nbdr, .int .i64 nst, .int .i64 ntil, .bool nmas, .int .i64 nseq, .slice a9 n9 c9, .slice aA nA cA, .bool nmore, .slice vCa vCn vCc, .slice vDa vDn vDc, .int .i64 nres] wx)
  case first =>
    clear KC KD
    go_region_with (first
      | (go_at_call 171; ((with_reducible refine (C9.out _ (by first | exact Below.refl _ _ | exact (Below.refl _ _).drew | exact R2.out)).mono ?_)); rintro e w1 ⟨a9, n9, c9, rfl, B1⟩; have R1 : Hid (Below W0.heap.size W0 w1) := Lib.hid (by first | exact R2.out.trans (B1.mono R2.out.size) | exact B1 | exact (Below.refl _ W0).drew.trans B1); have b1 := (R1.out.block _ (blk_lt X0.out)).trans X0.out; have p9 : w1.cell? ⟨w.heap.size, 9, none⟩ = some (.slice v9a v9n v9c) := blk_cell b1 rfl; have p10 : w1.cell? ⟨w.heap.size, 10, none⟩ = some (.slice vAa vAn vAc) := blk_cell b1 rfl; have pf9 := blk_free b1 9; have pf10 := blk_free b1 10; clear B1 b1)
      | (go_at_call 171; ((with_reducible refine (CA.out _ (by first | exact Below.refl _ _ | exact (Below.refl _ _).drew | exact R1.out)).mono ?_)); rintro e w2 ⟨aA, nA, cA, rfl, B2⟩; have R2 : Hid (Below W0.heap.size W0 w2) := Lib.hid (by first | exact R1.out.trans (B2.mono R1.out.size) | exact B2 | exact (Below.refl _ W0).drew.trans B2); have b2 := (R2.out.block _ (blk_lt X0.out)).trans X0.out; have q9 : w2.cell? ⟨w.heap.size, 9, none⟩ = some (.slice v9a v9n v9c) := blk_cell b2 rfl; have q10 : w2.cell? ⟨w.heap.size, 10, none⟩ = some (.slice vAa vAn vAc) := blk_cell b2 rfl; have qf9 := blk_free b2 9; have qf10 := blk_free b2 10; have QB2 := Lib.hid b2; clear B2 b2))
    all_goals
      obtain ⟨wE, hWE⟩ : ∃ wE, (w2.setCell ⟨w.heap.size, 9, none⟩ (.slice a9 n9 c9)).setCell ⟨w.heap.size, 10, none⟩ (.slice aA nA cA) = wE := ⟨_, rfl⟩
      have gS : w2.grownBy wE (some w.heap.size) := by rw [← hWE]; exact (grown_set w2 w.heap.size 9 _).andThen (grown_set _ w.heap.size 10 _) (fun j hj => .inr hj.symm.symm)
      have EB : wE.heap[w.heap.size]? = some (.cells #[.int .u32 nr, .int .u32 na, .int .i64 nprio, .int .u32 ndr, .int .u32 nbdr, .int .i64 nst, .int .i64 ntil, .bool nmas, .int .i64 nseq, .slice a9 n9 c9, .slice aA nA cA, .bool nmore, .slice vCa vCn vCc, .slice vDa vDn vDc, .int .i64 nres] 72 (0, 0)) := by
        rw [← hWE]
        have h1 := blk_set (blk_set QB2.out 9 (.slice a9 n9 c9)) 10 (.slice aA nA cA)
        simp only [List.setIfInBounds_toArray, List.set_cons_zero, List.set_cons_succ] at h1
        exact h1
      have EZ : wE.heap[w.heap.size + 1]? = some (.cells #[.int .u32 0, .int .u32 0, .int .i64 0, .int .u32 0, .int .u32 0, .int .i64 0, .int .i64 0, .bool false, .int .i64 0, .slice none 0 0, .slice none 0 0, .bool false, .slice none 0 0, .slice none 0 0, .int .i64 0] 72 (0, 0)) := (gS.block _ (Nat.lt_of_lt_of_le (blk_lt Z0.out) R2.out.size) (by simp)).trans ((R2.out.block _ (blk_lt Z0.out)).trans Z0.out)
      have BE : Below w.heap.size w wE := (B0.out.trans (R2.out.mono B0.out.size)).grown gS (Nat.le_trans B0.out.size R2.out.size) (fun j hj => by cases hj; exact Nat.le_refl _)
      have MID := Lib.hid ((show ∃ a9 n9 c9 aA nA cA, CnM w #[.int .u32 nr, .int .u32 na, .int .i64 nprio, .int .u32 ndr, .int .u32 nbdr, .int .i64 nst, .int .i64 ntil, .bool nmas, .int .i64 nseq, .slice a9 n9 c9, .slice aA nA cA, .bool nmore, .slice vCa vCn vCc, .slice vDa vDn vDc, .int .i64 nres] wE from ⟨a9, n9, c9, aA, nA, cA, EB, EZ, BE⟩))
      rw [hWE]
      clear hWE gS EB EZ BE p9 p10 pf9 pf10 q9 q10 qf9 qf10
      go_wp2_with fail
      go_meet
      exact MID.out
  case rest =>
    clear K9 KA C9 CA m9 m10 X0 Z0 B0 HW0
    obtain ⟨b9, x9, y9, bA, xA, yA, XH, ZH, BH⟩ := hcut
    obtain ⟨wc1, ewc⟩ : ∃ wc1, wc1 = wc := ⟨_, rfl⟩
    subst ewc
    have X1 := Lib.hid XH
    have Z1 := Lib.hid ZH
    have B1 := Lib.hid BH
    clear XH ZH BH
    have CC := Lib.hid (fun W (g : Below wc1.heap.size wc1 W) => KC.out W (B1.out.trans (g.mono B1.out.size)))
    have CD := Lib.hid (fun W (g : Below wc1.heap.size wc1 W) => KD.out W (B1.out.trans (g.mono B1.out.size)))
    have m9 : wc1.cell? ⟨w.heap.size, 12, none⟩ = some (.slice vCa vCn vCc) := blk_cell X1.out rfl
    have m10 : wc1.cell? ⟨w.heap.size, 13, none⟩ = some (.slice vDa vDn vDc) := blk_cell X1.out rfl
    go_upto_region 2 with fail
    go_cut [] (fun wx => ∃ aC nC cC aD nD cD, CnM w #[.int .u32 nr, .int .u32 na, .int .i64 nprio, .int .u32 ndr, .int .u32 nbdr, .int .i64 nst, .int .i64 ntil, .bool nmas, .int .i64 nseq, .slice b9 x9 y9, .slice bA xA yA, .bool nmore, .slice aC nC cC, .slice aD nD cD, .int .i64 nres] wx)
    case first =>
      go_region_with (first
        | (go_at_call 171; ((with_reducible refine (CC.out _ (by first | exact Below.refl _ _ | exact (Below.refl _ _).drew | exact R2.out)).mono ?_)); rintro e w1 ⟨a9, n9, c9, rfl, B1⟩; have R1 : Hid (Below wc1.heap.size wc1 w1) := Lib.hid (by first | exact R2.out.trans (B1.mono R2.out.size) | exact B1 | exact (Below.refl _ wc1).drew.trans B1); have b1 := (R1.out.block _ (blk_lt X1.out)).trans X1.out; have p9 : w1.cell? ⟨w.heap.size, 12, none⟩ = some (.slice vCa vCn vCc) := blk_cell b1 rfl; have p10 : w1.cell? ⟨w.heap.size, 13, none⟩ = some (.slice vDa vDn vDc) := blk_cell b1 rfl; have pf9 := blk_free b1 12; have pf10 := blk_free b1 13; clear B1 b1)
        | (go_at_call 171; ((with_reducible refine (CD.out _ (by first | exact Below.refl _ _ | exact (Below.refl _ _).drew | exact R1.out)).mono ?_)); rintro e w2 ⟨aA, nA, cA, rfl, B2⟩; have R2 : Hid (Below wc1.heap.size wc1 w2) := Lib.hid (by first | exact R1.out.trans (B2.mono R1.out.size) | exact B2 | exact (Below.refl _ wc1).drew.trans B2); have b2 := (R2.out.block _ (blk_lt X1.out)).trans X1.out; have q9 : w2.cell? ⟨w.heap.size, 12, none⟩ = some (.slice vCa vCn vCc) := blk_cell b2 rfl; have q10 : w2.cell? ⟨w.heap.size, 13, none⟩ = some (.slice vDa vDn vDc) := blk_cell b2 rfl; have qf9 := blk_free b2 12; have qf10 := blk_free b2 13; have QB2 := Lib.hid b2; clear B2 b2))
      all_goals
        obtain ⟨wE, hWE⟩ : ∃ wE, (w2.setCell ⟨w.heap.size, 12, none⟩ (.slice a9 n9 c9)).setCell ⟨w.heap.size, 13, none⟩ (.slice aA nA cA) = wE := ⟨_, rfl⟩
        have gS : w2.grownBy wE (some w.heap.size) := by rw [← hWE]; exact (grown_set w2 w.heap.size 12 _).andThen (grown_set _ w.heap.size 13 _) (fun j hj => .inr hj.symm.symm)
        have EB : wE.heap[w.heap.size]? = some (.cells #[.int .u32 nr, .int .u32 na, .int .i64 nprio, .int .u32 ndr, .int .u32 nbdr, .int .i64 nst, .int .i64 ntil, .bool nmas, .int .i64 nseq, .slice b9 x9 y9, .slice bA xA yA, .bool nmore, .slice a9 n9 c9, .slice aA nA cA, .int .i64 nres] 72 (0, 0)) := by
          rw [← hWE]
          have h1 := blk_set (blk_set QB2.out 12 (.slice a9 n9 c9)) 13 (.slice aA nA cA)
          simp only [List.setIfInBounds_toArray, List.set_cons_zero, List.set_cons_succ] at h1
          exact h1
        have EZ : wE.heap[w.heap.size + 1]? = some (.cells #[.int .u32 0, .int .u32 0, .int .i64 0, .int .u32 0, .int .u32 0, .int .i64 0, .int .i64 0, .bool false, .int .i64 0, .slice none 0 0, .slice none 0 0, .bool false, .slice none 0 0, .slice none 0 0, .int .i64 0] 72 (0, 0)) := (gS.block _ (Nat.lt_of_lt_of_le (blk_lt Z1.out) R2.out.size) (by simp)).trans ((R2.out.block _ (blk_lt Z1.out)).trans Z1.out)
        have BE : Below w.heap.size w wE := (B1.out.trans (R2.out.mono B1.out.size)).grown gS (Nat.le_trans B1.out.size R2.out.size) (fun j hj => by cases hj; exact Nat.le_refl _)
        have MID := Lib.hid ((show ∃ aC nC cC aD nD cD, CnM w #[.int .u32 nr, .int .u32 na, .int .i64 nprio, .int .u32 ndr, .int .u32 nbdr, .int .i64 nst, .int .i64 ntil, .bool nmas, .int .i64 nseq, .slice b9 x9 y9, .slice bA xA yA, .bool nmore, .slice aC nC cC, .slice aD nD cD, .int .i64 nres] wE from ⟨a9, n9, c9, aA, nA, cA, EB, EZ, BE⟩))
        rw [hWE]
        clear hWE gS EB EZ BE p9 p10 pf9 pf10 q9 q10 qf9 qf10
        go_wp2_with fail
        go_meet
        exact MID.out
    case rest =>
      clear KC KD CC CD m9 m10 X1 Z1 B1
      obtain ⟨aC, nC, cC, aD, nD, cD, XH, ZH, BH⟩ := hcut
      obtain ⟨wc2, ewc⟩ : ∃ wc2, wc2 = wc := ⟨_, rfl⟩
      subst ewc
      have Z2 := Lib.hid ZH
      obtain ⟨W', hW'⟩ : ∃ W', (((((((((((((((wc2).setCell ⟨w.heap.size + 1, 0, none⟩ (.int .u32 nr)).setCell ⟨w.heap.size + 1, 1, none⟩ (.int .u32 na)).setCell ⟨w.heap.size + 1, 2, none⟩ (.int .i64 nprio)).setCell ⟨w.heap.size + 1, 3, none⟩ (.int .u32 ndr)).setCell ⟨w.heap.size + 1, 4, none⟩ (.int .u32 nbdr)).setCell ⟨w.heap.size + 1, 5, none⟩ (.int .i64 nst)).setCell ⟨w.heap.size + 1, 6, none⟩ (.int .i64 ntil)).setCell ⟨w.heap.size + 1, 7, none⟩ (.bool nmas)).setCell ⟨w.heap.size + 1, 8, none⟩ (.int .i64 nseq)).setCell ⟨w.heap.size + 1, 9, none⟩ (.slice b9 x9 y9)).setCell ⟨w.heap.size + 1, 10, none⟩ (.slice bA xA yA)).setCell ⟨w.heap.size + 1, 11, none⟩ (.bool nmore)).setCell ⟨w.heap.size + 1, 12, none⟩ (.slice aC nC cC)).setCell ⟨w.heap.size + 1, 13, none⟩ (.slice aD nD cD)).setCell ⟨w.heap.size + 1, 14, none⟩ (.int .i64 nres) = W' := ⟨_, rfl⟩
      have bk' : W'.heap[w.heap.size + 1]? = some (.cells #[.int .u32 nr, .int .u32 na, .int .i64 nprio, .int .u32 ndr, .int .u32 nbdr, .int .i64 nst, .int .i64 ntil, .bool nmas, .int .i64 nseq, .slice b9 x9 y9, .slice bA xA yA, .bool nmore, .slice aC nC cC, .slice aD nD cD, .int .i64 nres] 72 (0, 0)) := by
        rw [← hW']
        have h1 := blk_set (blk_set (blk_set (blk_set (blk_set (blk_set (blk_set (blk_set (blk_set (blk_set (blk_set (blk_set (blk_set (blk_set (blk_set (Z2.out) 0 (.int .u32 nr)) 1 (.int .u32 na)) 2 (.int .i64 nprio)) 3 (.int .u32 ndr)) 4 (.int .u32 nbdr)) 5 (.int .i64 nst)) 6 (.int .i64 ntil)) 7 (.bool nmas)) 8 (.int .i64 nseq)) 9 (.slice b9 x9 y9)) 10 (.slice bA xA yA)) 11 (.bool nmore)) 12 (.slice aC nC cC)) 13 (.slice aD nD cD)) 14 (.int .i64 nres)
        simp only [List.setIfInBounds_toArray, List.set_cons_zero, List.set_cons_succ] at h1
        exact h1
      have BN : wc2.grownBy W' (some (w.heap.size + 1)) := by
        rw [← hW']
        exact grown_grown0 (grown_grown0 (grown_grown0 (grown_grown0 (grown_grown0 (grown_grown0 (grown_grown0 (grown_grown0 (grown_grown0 (grown_grown0 (grown_grown0 (grown_grown0 (grown_grown0 (grown_grown0 (grown_grown0 (⟨rfl, rfl, rfl, Nat.le_refl _, fun _ _ _ => rfl⟩) (grown_set (wc2) (w.heap.size + 1) 0 (.int .u32 nr))) (grown_set ((wc2).setCell ⟨w.heap.size + 1, 0, none⟩ (.int .u32 nr)) (w.heap.size + 1) 1 (.int .u32 na))) (grown_set (((wc2).setCell ⟨w.heap.size + 1, 0, none⟩ (.int .u32 nr)).setCell ⟨w.heap.size + 1, 1, none⟩ (.int .u32 na)) (w.heap.size + 1) 2 (.int .i64 nprio))) (grown_set ((((wc2).setCell ⟨w.heap.size + 1, 0, none⟩ (.int .u32 nr)).setCell ⟨w.heap.size + 1, 1, none⟩ (.int .u32 na)).setCell ⟨w.heap.size + 1, 2, none⟩ (.int .i64 nprio)) (w.heap.size + 1) 3 (.int .u32 ndr))) (grown_set (((((wc2).setCell ⟨w.heap.size + 1, 0, none⟩ (.int .u32 nr)).setCell ⟨w.heap.size + 1, 1, none⟩ (.int .u32 na)).setCell ⟨w.heap.size + 1, 2, none⟩ (.int .i64 nprio)).setCell ⟨w.heap.size + 1, 3, none⟩ (.int .u32 ndr)) (w.heap.size + 1) 4 (.int .u32 nbdr))) (grown_set ((((((wc2).setCell ⟨w.heap.size + 1, 0, none⟩ (.int .u32 nr)).setCell ⟨w.heap.size + 1, 1, none⟩ (.int .u32 na)).setCell ⟨w.heap.size + 1, 2, none⟩ (.int .i64 nprio)).setCell ⟨w.heap.size + 1, 3, none⟩ (.int .u32 ndr)).setCell ⟨w.heap.size + 1, 4, none⟩ (.int .u32 nbdr)) (w.heap.size + 1) 5 (.int .i64 nst))) (grown_set (((((((wc2).setCell ⟨w.heap.size + 1, 0, none⟩ (.int .u32 nr)).setCell ⟨w.heap.size + 1, 1, none⟩ (.int .u32 na)).setCell ⟨w.heap.size + 1, 2, none⟩ (.int .i64 nprio)).setCell ⟨w.heap.size + 1, 3, none⟩ (.int .u32 ndr)).setCell ⟨w.heap.size + 1, 4, none⟩ (.int .u32 nbdr)).setCell ⟨w.heap.size + 1, 5, none⟩ (.int .i64 nst)) (w.heap.size + 1) 6 (.int .i64 ntil))) (grown_set ((((((((wc2).setCell ⟨w.heap.size + 1, 0, none⟩ (.int .u32 nr)).setCell ⟨w.heap.size + 1, 1, none⟩ (.int .u32 na)).setCell ⟨w.heap.size + 1, 2, none⟩ (.int .i64 nprio)).setCell ⟨w.heap.size + 1, 3, none⟩ (.int .u32 ndr)).setCell ⟨w.heap.size + 1, 4, none⟩ (.int .u32 nbdr)).setCell ⟨w.heap.size + 1, 5, none⟩ (.int .i64 nst)).setCell ⟨w.heap.size + 1, 6, none⟩ (.int .i64 ntil)) (w.heap.size + 1) 7 (.bool nmas))) (grown_set (((((((((wc2).setCell ⟨w.heap.size + 1, 0, none⟩ (.int .u32 nr)).setCell ⟨w.heap.size + 1, 1, none⟩ (.int .u32 na)).setCell ⟨w.heap.size + 1, 2, none⟩ (.int .i64 nprio)).setCell ⟨w.heap.size + 1, 3, none⟩ (.int .u32 ndr)).setCell ⟨w.heap.size + 1, 4, none⟩ (.int .u32 nbdr)).setCell ⟨w.heap.size + 1, 5, none⟩ (.int .i64 nst)).setCell ⟨w.heap.size + 1, 6, none⟩ (.int .i64 ntil)).setCell ⟨w.heap.size + 1, 7, none⟩ (.bool nmas)) (w.heap.size + 1) 8 (.int .i64 nseq))) (grown_set ((((((((((wc2).setCell ⟨w.heap.size + 1, 0, none⟩ (.int .u32 nr)).setCell ⟨w.heap.size + 1, 1, none⟩ (.int .u32 na)).setCell ⟨w.heap.size + 1, 2, none⟩ (.int .i64 nprio)).setCell ⟨w.heap.size + 1, 3, none⟩ (.int .u32 ndr)).setCell ⟨w.heap.size + 1, 4, none⟩ (.int .u32 nbdr)).setCell ⟨w.heap.size + 1, 5, none⟩ (.int .i64 nst)).setCell ⟨w.heap.size + 1, 6, none⟩ (.int .i64 ntil)).setCell ⟨w.heap.size + 1, 7, none⟩ (.bool nmas)).setCell ⟨w.heap.size + 1, 8, none⟩ (.int .i64 nseq)) (w.heap.size + 1) 9 (.slice b9 x9 y9))) (grown_set (((((((((((wc2).setCell ⟨w.heap.size + 1, 0, none⟩ (.int .u32 nr)).setCell ⟨w.heap.size + 1, 1, none⟩ (.int .u32 na)).setCell ⟨w.heap.size + 1, 2, none⟩ (.int .i64 nprio)).setCell ⟨w.heap.size + 1, 3, none⟩ (.int .u32 ndr)).setCell ⟨w.heap.size + 1, 4, none⟩ (.int .u32 nbdr)).setCell ⟨w.heap.size + 1, 5, none⟩ (.int .i64 nst)).setCell ⟨w.heap.size + 1, 6, none⟩ (.int .i64 ntil)).setCell ⟨w.heap.size + 1, 7, none⟩ (.bool nmas)).setCell ⟨w.heap.size + 1, 8, none⟩ (.int .i64 nseq)).setCell ⟨w.heap.size + 1, 9, none⟩ (.slice b9 x9 y9)) (w.heap.size + 1) 10 (.slice bA xA yA))) (grown_set ((((((((((((wc2).setCell ⟨w.heap.size + 1, 0, none⟩ (.int .u32 nr)).setCell ⟨w.heap.size + 1, 1, none⟩ (.int .u32 na)).setCell ⟨w.heap.size + 1, 2, none⟩ (.int .i64 nprio)).setCell ⟨w.heap.size + 1, 3, none⟩ (.int .u32 ndr)).setCell ⟨w.heap.size + 1, 4, none⟩ (.int .u32 nbdr)).setCell ⟨w.heap.size + 1, 5, none⟩ (.int .i64 nst)).setCell ⟨w.heap.size + 1, 6, none⟩ (.int .i64 ntil)).setCell ⟨w.heap.size + 1, 7, none⟩ (.bool nmas)).setCell ⟨w.heap.size + 1, 8, none⟩ (.int .i64 nseq)).setCell ⟨w.heap.size + 1, 9, none⟩ (.slice b9 x9 y9)).setCell ⟨w.heap.size + 1, 10, none⟩ (.slice bA xA yA)) (w.heap.size + 1) 11 (.bool nmore))) (grown_set (((((((((((((wc2).setCell ⟨w.heap.size + 1, 0, none⟩ (.int .u32 nr)).setCell ⟨w.heap.size + 1, 1, none⟩ (.int .u32 na)).setCell ⟨w.heap.size + 1, 2, none⟩ (.int .i64 nprio)).setCell ⟨w.heap.size + 1, 3, none⟩ (.int .u32 ndr)).setCell ⟨w.heap.size + 1, 4, none⟩ (.int .u32 nbdr)).setCell ⟨w.heap.size + 1, 5, none⟩ (.int .i64 nst)).setCell ⟨w.heap.size + 1, 6, none⟩ (.int .i64 ntil)).setCell ⟨w.heap.size + 1, 7, none⟩ (.bool nmas)).setCell ⟨w.heap.size + 1, 8, none⟩ (.int .i64 nseq)).setCell ⟨w.heap.size + 1, 9, none⟩ (.slice b9 x9 y9)).setCell ⟨w.heap.size + 1, 10, none⟩ (.slice bA xA yA)).setCell ⟨w.heap.size + 1, 11, none⟩ (.bool nmore)) (w.heap.size + 1) 12 (.slice aC nC cC))) (grown_set ((((((((((((((wc2).setCell ⟨w.heap.size + 1, 0, none⟩ (.int .u32 nr)).setCell ⟨w.heap.size + 1, 1, none⟩ (.int .u32 na)).setCell ⟨w.heap.size + 1, 2, none⟩ (.int .i64 nprio)).setCell ⟨w.heap.size + 1, 3, none⟩ (.int .u32 ndr)).setCell ⟨w.heap.size + 1, 4, none⟩ (.int .u32 nbdr)).setCell ⟨w.heap.size + 1, 5, none⟩ (.int .i64 nst)).setCell ⟨w.heap.size + 1, 6, none⟩ (.int .i64 ntil)).setCell ⟨w.heap.size + 1, 7, none⟩ (.bool nmas)).setCell ⟨w.heap.size + 1, 8, none⟩ (.int .i64 nseq)).setCell ⟨w.heap.size + 1, 9, none⟩ (.slice b9 x9 y9)).setCell ⟨w.heap.size + 1, 10, none⟩ (.slice bA xA yA)).setCell ⟨w.heap.size + 1, 11, none⟩ (.bool nmore)).setCell ⟨w.heap.size + 1, 12, none⟩ (.slice aC nC cC)) (w.heap.size + 1) 13 (.slice aD nD cD))) (grown_set (((((((((((((((wc2).setCell ⟨w.heap.size + 1, 0, none⟩ (.int .u32 nr)).setCell ⟨w.heap.size + 1, 1, none⟩ (.int .u32 na)).setCell ⟨w.heap.size + 1, 2, none⟩ (.int .i64 nprio)).setCell ⟨w.heap.size + 1, 3, none⟩ (.int .u32 ndr)).setCell ⟨w.heap.size + 1, 4, none⟩ (.int .u32 nbdr)).setCell ⟨w.heap.size + 1, 5, none⟩ (.int .i64 nst)).setCell ⟨w.heap.size + 1, 6, none⟩ (.int .i64 ntil)).setCell ⟨w.heap.size + 1, 7, none⟩ (.bool nmas)).setCell ⟨w.heap.size + 1, 8, none⟩ (.int .i64 nseq)).setCell ⟨w.heap.size + 1, 9, none⟩ (.slice b9 x9 y9)).setCell ⟨w.heap.size + 1, 10, none⟩ (.slice bA xA yA)).setCell ⟨w.heap.size + 1, 11, none⟩ (.bool nmore)).setCell ⟨w.heap.size + 1, 12, none⟩ (.slice aC nC cC)).setCell ⟨w.heap.size + 1, 13, none⟩ (.slice aD nD cD)) (w.heap.size + 1) 14 (.int .i64 nres))
      have FIN : Hid (CnPost w ⟨nr, na, nprio, ndr, nbdr, nst, ntil, nmas, nseq, ⟨v9a, v9n, v9c⟩, ⟨vAa, vAn, vAc⟩, nmore, ⟨vCa, vCn, vCc⟩, ⟨vDa, vDn, vDc⟩, nres⟩ (.returned (.agg #[.int .u32 nr, .int .u32 na, .int .i64 nprio, .int .u32 ndr, .int .u32 nbdr, .int .i64 nst, .int .i64 ntil, .bool nmas, .int .i64 nseq, .slice b9 x9 y9, .slice bA xA yA, .bool nmore, .slice aC nC cC, .slice aD nD cD, .int .i64 nres])) W') := Lib.hid ⟨⟨b9, x9, y9⟩, ⟨bA, xA, yA⟩, ⟨aC, nC, cC⟩, ⟨aD, nD, cD⟩, rfl, BH.grown BN BH.size (fun j hj => by cases hj; omega)⟩
      have HW' := Lib.hid hW'
      obtain ⟨⟨⟨d0, d1, d2, d3, d4⟩, ⟨d5, d6, d7, d8, d9⟩, ⟨d10, d11, d12, d13, d14⟩⟩, -⟩ := blk15 XH
      obtain ⟨⟨⟨z0, z1, z2, z3, z4⟩, ⟨z5, z6, z7, z8, z9⟩, ⟨z10, z11, z12, z13, z14⟩⟩, hfz⟩ := blk15 Z2.out
      have zf0 := hfz 0
      have zf1 := hfz 1
      have zf2 := hfz 2
      have zf3 := hfz 3
      have zf4 := hfz 4
      have zf5 := hfz 5
      have zf6 := hfz 6
      have zf7 := hfz 7
      have zf8 := hfz 8
      have zf9 := hfz 9
      have zf10 := hfz 10
      have zf11 := hfz 11
      have zf12 := hfz 12
      have zf13 := hfz 13
      have zf14 := hfz 14
      obtain ⟨⟨⟨g0, g1, g2, g3, g4⟩, ⟨g5, g6, g7, g8, g9⟩, ⟨g10, g11, g12, g13, g14⟩⟩, -⟩ := blk15 bk'
      have G := Lib.hid (And.intro g0 (And.intro g1 (And.intro g2 (And.intro g3 (And.intro g4 (And.intro g5 (And.intro g6 (And.intro g7 (And.intro g8 (And.intro g9 (And.intro g10 (And.intro g11 (And.intro g12 (And.intro g13 g14))))))))))))))
      clear hW' bk' BN XH ZH BH hfz Z2 g0 g1 g2 g3 g4 g5 g6 g7 g8 g9 g10 g11 g12 g13 g14
      go_wp2_with fail
      rw [HW'.out]
      obtain ⟨g0, g1, g2, g3, g4, g5, g6, g7, g8, g9, g10, g11, g12, g13, g14⟩ := G.out
      exact bodyPost_ret (v := .agg #[.int .u32 nr, .int .u32 na, .int .i64 nprio, .int .u32 ndr, .int .u32 nbdr, .int .i64 nst, .int .i64 ntil, .bool nmas, .int .i64 nseq, .slice b9 x9 y9, .slice bA xA yA, .bool nmore, .slice aC nC cC, .slice aD nD cD, .int .i64 nres]) (by simp [results, Tryz.results144, go_sem, g0, g1, g2, g3, g4, g5, g6, g7, g8, g9, g10, g11, g12, g13, g14]) rfl FIN.out

theorem addr_none {nb : List Nb} {r : Int} (h : ∀ n ∈ nb, n.r ≠ r) : addrOf nb r = 0 := by
  unfold addrOf
  rw [List.find?_eq_none.2 (fun n hn => by simpa using h n hn)]
  rfl

theorem addr_some {nb : List Nb} {r : Int} {k : Nat} (c : k < nb.length) (h : nb[k].r = r) (no : ∀ m, (hm : m < k) → (nb[m]'(by omega)).r ≠ r) : addrOf nb r = nb[k].a := by
  unfold addrOf
  have e : nb.find? (fun n => decide (n.r = r)) = some nb[k] := by
    rw [List.find?_eq_some_iff_getElem]
    exact ⟨by simpa using h, k, c, rfl, fun j hj => by simpa using no j hj⟩
  rw [e]; rfl

set_option maxHeartbeats 16000000 in
set_option maxRecDepth 100000 in
theorem hfind_calls (x : Ifc) (nb : List Nb) (r : Int) (w : World) (hn : NbsAt w (.slice x.na x.nn x.nc) nb) (hb : ∀ n ∈ nb, n.v9.n ≤ 1048576 ∧ n.v10.n ≤ 1048576 ∧ n.v12.n ≤ 1048576 ∧ n.v13.n ≤ 1048576) : Calls Tryz.prog 102 #[.agg (ifE x).toArray, .int .u32 r] w (HfPost w nb r) := by
  have PC := Lib.hid (fun W (g : Below w.heap.size w W) => place_calls x nb r W (hn.below g))
  have CC := Lib.hid (fun k (c : k < nb.length) W (g : Below w.heap.size w W) => cloneNb_calls nb[k] W ((hn.hd _ (List.getElem_mem c)).below g) (hb _ (List.getElem_mem c)).1 (hb _ (List.getElem_mem c)).2.1 (hb _ (List.getElem_mem c)).2.2.1 (hb _ (List.getElem_mem c)).2.2.2)
  obtain ⟨ga, gc, e1, hlen, hc1⟩ := hn.get
  have HC1 := Lib.hid hc1
  obtain ⟨kind, pa, pl, ad, area, cost, prio, hel, dead, up, dr, bdr, el, nh, a1, nn, c1⟩ := x
  simp only at e1
  simp only [Value.slice.injEq] at e1
  obtain ⟨rfl, rfl, rfl⟩ := e1
  simp only [ifE] at PC ⊢
  clear hn hb hc1
  obtain ⟨W0, hW0⟩ : ∃ W0, (w.alloc (.cells #[.int .i64 kind, .int .u32 pa, .int .i64 pl, .int .u32 ad, .int .u32 area, .int .i64 cost, .int .i64 prio, .int .i64 hel, .int .i64 dead, .bool up, .int .u32 dr, .int .u32 bdr, .int .i64 el, .int .i64 nh, .slice a1 nb.length c1] 69)).alloc (.cells #[.int .u32 0, .int .u32 0, .int .i64 0, .int .u32 0, .int .u32 0, .int .i64 0, .int .i64 0, .bool false, .int .i64 0, .slice none 0 0, .slice none 0 0, .bool false, .slice none 0 0, .slice none 0 0, .int .i64 0] 72) = W0 := ⟨_, rfl⟩
  have B0 : Hid (Below w.heap.size w W0) := Lib.hid (by rw [← hW0]; exact ((Below.refl _ _).alloc (Nat.le_refl _) _).alloc (by simp) _)
  have X0 : Hid (W0.heap[w.heap.size]? = some (.cells #[.int .i64 kind, .int .u32 pa, .int .i64 pl, .int .u32 ad, .int .u32 area, .int .i64 cost, .int .i64 prio, .int .i64 hel, .int .i64 dead, .bool up, .int .u32 dr, .int .u32 bdr, .int .i64 el, .int .i64 nh, .slice a1 nb.length c1] 69 (0, 0))) := Lib.hid (by rw [← hW0]; exact (alloc_get _ _ _ (by simp)).trans (alloc_new _ _))
  have Z0 : Hid (W0.heap[w.heap.size + 1]? = some (.cells #[.int .u32 0, .int .u32 0, .int .i64 0, .int .u32 0, .int .u32 0, .int .i64 0, .int .i64 0, .bool false, .int .i64 0, .slice none 0 0, .slice none 0 0, .bool false, .slice none 0 0, .slice none 0 0, .int .i64 0] 72 (0, 0))) := Lib.hid (by rw [← hW0]; exact blk_new2 w _ _)
  have HW0 := Lib.hid hW0
  clear hW0
  have P0 := Lib.hid (PC.out W0 B0.out)
  clear PC
  obtain ⟨⟨⟨d0, d1, d2, d3, d4⟩, ⟨d5, d6, d7, d8, d9⟩, ⟨d10, d11, d12, d13, d14⟩⟩, -⟩ := blk15 X0.out
  go_enter Tryz.func102, Tryz.ntmps102
  go_upto_region 1 with fail
  rw [HW0.out]
  go_wp2_with fail
  refine P0.out.mono ?_
  rintro e w1 ⟨i, rfl, HI, G1⟩
  have B1 := Lib.hid (B0.out.trans (G1.b.mono B0.out.size))
  have X1 := Lib.hid ((G1.b.block _ (blk_lt X0.out)).trans X0.out)
  have Z1 := Lib.hid ((G1.b.block _ (blk_lt Z0.out)).trans Z0.out)
  clear P0 G1 B0 X0 Z0 HW0 d0 d1 d2 d3 d4 d5 d6 d7 d8 d9 d10 d11 d12 d13 d14
  rcases HI with ⟨rfl, no⟩ | ⟨k, c, rfl, hk, no⟩
  · have AD := Lib.hid (addr_none no)
    clear no CC HC1
    obtain ⟨W', hW'⟩ : ∃ W', (((((((((((((((w1).setCell ⟨w.heap.size + 1, 0, none⟩ (.int .u32 0)).setCell ⟨w.heap.size + 1, 1, none⟩ (.int .u32 0)).setCell ⟨w.heap.size + 1, 2, none⟩ (.int .i64 0)).setCell ⟨w.heap.size + 1, 3, none⟩ (.int .u32 0)).setCell ⟨w.heap.size + 1, 4, none⟩ (.int .u32 0)).setCell ⟨w.heap.size + 1, 5, none⟩ (.int .i64 0)).setCell ⟨w.heap.size + 1, 6, none⟩ (.int .i64 0)).setCell ⟨w.heap.size + 1, 7, none⟩ (.bool false)).setCell ⟨w.heap.size + 1, 8, none⟩ (.int .i64 0)).setCell ⟨w.heap.size + 1, 9, none⟩ (.slice none 0 0)).setCell ⟨w.heap.size + 1, 10, none⟩ (.slice none 0 0)).setCell ⟨w.heap.size + 1, 11, none⟩ (.bool false)).setCell ⟨w.heap.size + 1, 12, none⟩ (.slice none 0 0)).setCell ⟨w.heap.size + 1, 13, none⟩ (.slice none 0 0)).setCell ⟨w.heap.size + 1, 14, none⟩ (.int .i64 0) = W' := ⟨_, rfl⟩
    have bk' : W'.heap[w.heap.size + 1]? = some (.cells #[.int .u32 0, .int .u32 0, .int .i64 0, .int .u32 0, .int .u32 0, .int .i64 0, .int .i64 0, .bool false, .int .i64 0, .slice none 0 0, .slice none 0 0, .bool false, .slice none 0 0, .slice none 0 0, .int .i64 0] 72 (0, 0)) := by
      rw [← hW']
      have h1 := blk_set (blk_set (blk_set (blk_set (blk_set (blk_set (blk_set (blk_set (blk_set (blk_set (blk_set (blk_set (blk_set (blk_set (blk_set (Z1.out) 0 (.int .u32 0)) 1 (.int .u32 0)) 2 (.int .i64 0)) 3 (.int .u32 0)) 4 (.int .u32 0)) 5 (.int .i64 0)) 6 (.int .i64 0)) 7 (.bool false)) 8 (.int .i64 0)) 9 (.slice none 0 0)) 10 (.slice none 0 0)) 11 (.bool false)) 12 (.slice none 0 0)) 13 (.slice none 0 0)) 14 (.int .i64 0)
      simp only [List.setIfInBounds_toArray, List.set_cons_zero, List.set_cons_succ] at h1
      exact h1
    have BN : w1.grownBy W' (some (w.heap.size + 1)) := by
      rw [← hW']
      exact grown_grown0 (grown_grown0 (grown_grown0 (grown_grown0 (grown_grown0 (grown_grown0 (grown_grown0 (grown_grown0 (grown_grown0 (grown_grown0 (grown_grown0 (grown_grown0 (grown_grown0 (grown_grown0 (grown_grown0 (⟨rfl, rfl, rfl, Nat.le_refl _, fun _ _ _ => rfl⟩) (grown_set (w1) (w.heap.size + 1) 0 (.int .u32 0))) (grown_set ((w1).setCell ⟨w.heap.size + 1, 0, none⟩ (.int .u32 0)) (w.heap.size + 1) 1 (.int .u32 0))) (grown_set (((w1).setCell ⟨w.heap.size + 1, 0, none⟩ (.int .u32 0)).setCell ⟨w.heap.size + 1, 1, none⟩ (.int .u32 0)) (w.heap.size + 1) 2 (.int .i64 0))) (grown_set ((((w1).setCell ⟨w.heap.size + 1, 0, none⟩ (.int .u32 0)).setCell ⟨w.heap.size + 1, 1, none⟩ (.int .u32 0)).setCell ⟨w.heap.size + 1, 2, none⟩ (.int .i64 0)) (w.heap.size + 1) 3 (.int .u32 0))) (grown_set (((((w1).setCell ⟨w.heap.size + 1, 0, none⟩ (.int .u32 0)).setCell ⟨w.heap.size + 1, 1, none⟩ (.int .u32 0)).setCell ⟨w.heap.size + 1, 2, none⟩ (.int .i64 0)).setCell ⟨w.heap.size + 1, 3, none⟩ (.int .u32 0)) (w.heap.size + 1) 4 (.int .u32 0))) (grown_set ((((((w1).setCell ⟨w.heap.size + 1, 0, none⟩ (.int .u32 0)).setCell ⟨w.heap.size + 1, 1, none⟩ (.int .u32 0)).setCell ⟨w.heap.size + 1, 2, none⟩ (.int .i64 0)).setCell ⟨w.heap.size + 1, 3, none⟩ (.int .u32 0)).setCell ⟨w.heap.size + 1, 4, none⟩ (.int .u32 0)) (w.heap.size + 1) 5 (.int .i64 0))) (grown_set (((((((w1).setCell ⟨w.heap.size + 1, 0, none⟩ (.int .u32 0)).setCell ⟨w.heap.size + 1, 1, none⟩ (.int .u32 0)).setCell ⟨w.heap.size + 1, 2, none⟩ (.int .i64 0)).setCell ⟨w.heap.size + 1, 3, none⟩ (.int .u32 0)).setCell ⟨w.heap.size + 1, 4, none⟩ (.int .u32 0)).setCell ⟨w.heap.size + 1, 5, none⟩ (.int .i64 0)) (w.heap.size + 1) 6 (.int .i64 0))) (grown_set ((((((((w1).setCell ⟨w.heap.size + 1, 0, none⟩ (.int .u32 0)).setCell ⟨w.heap.size + 1, 1, none⟩ (.int .u32 0)).setCell ⟨w.heap.size + 1, 2, none⟩ (.int .i64 0)).setCell ⟨w.heap.size + 1, 3, none⟩ (.int .u32 0)).setCell ⟨w.heap.size + 1, 4, none⟩ (.int .u32 0)).setCell ⟨w.heap.size + 1, 5, none⟩ (.int .i64 0)).setCell ⟨w.heap.size + 1, 6, none⟩ (.int .i64 0)) (w.heap.size + 1) 7 (.bool false))) (grown_set (((((((((w1).setCell ⟨w.heap.size + 1, 0, none⟩ (.int .u32 0)).setCell ⟨w.heap.size + 1, 1, none⟩ (.int .u32 0)).setCell ⟨w.heap.size + 1, 2, none⟩ (.int .i64 0)).setCell ⟨w.heap.size + 1, 3, none⟩ (.int .u32 0)).setCell ⟨w.heap.size + 1, 4, none⟩ (.int .u32 0)).setCell ⟨w.heap.size + 1, 5, none⟩ (.int .i64 0)).setCell ⟨w.heap.size + 1, 6, none⟩ (.int .i64 0)).setCell ⟨w.heap.size + 1, 7, none⟩ (.bool false)) (w.heap.size + 1) 8 (.int .i64 0))) (grown_set ((((((((((w1).setCell ⟨w.heap.size + 1, 0, none⟩ (.int .u32 0)).setCell ⟨w.heap.size + 1, 1, none⟩ (.int .u32 0)).setCell ⟨w.heap.size + 1, 2, none⟩ (.int .i64 0)).setCell ⟨w.heap.size + 1, 3, none⟩ (.int .u32 0)).setCell ⟨w.heap.size + 1, 4, none⟩ (.int .u32 0)).setCell ⟨w.heap.size + 1, 5, none⟩ (.int .i64 0)).setCell ⟨w.heap.size + 1, 6, none⟩ (.int .i64 0)).setCell ⟨w.heap.size + 1, 7, none⟩ (.bool false)).setCell ⟨w.heap.size + 1, 8, none⟩ (.int .i64 0)) (w.heap.size + 1) 9 (.slice none 0 0))) (grown_set (((((((((((w1).setCell ⟨w.heap.size + 1, 0, none⟩ (.int .u32 0)).setCell ⟨w.heap.size + 1, 1, none⟩ (.int .u32 0)).setCell ⟨w.heap.size + 1, 2, none⟩ (.int .i64 0)).setCell ⟨w.heap.size + 1, 3, none⟩ (.int .u32 0)).setCell ⟨w.heap.size + 1, 4, none⟩ (.int .u32 0)).setCell ⟨w.heap.size + 1, 5, none⟩ (.int .i64 0)).setCell ⟨w.heap.size + 1, 6, none⟩ (.int .i64 0)).setCell ⟨w.heap.size + 1, 7, none⟩ (.bool false)).setCell ⟨w.heap.size + 1, 8, none⟩ (.int .i64 0)).setCell ⟨w.heap.size + 1, 9, none⟩ (.slice none 0 0)) (w.heap.size + 1) 10 (.slice none 0 0))) (grown_set ((((((((((((w1).setCell ⟨w.heap.size + 1, 0, none⟩ (.int .u32 0)).setCell ⟨w.heap.size + 1, 1, none⟩ (.int .u32 0)).setCell ⟨w.heap.size + 1, 2, none⟩ (.int .i64 0)).setCell ⟨w.heap.size + 1, 3, none⟩ (.int .u32 0)).setCell ⟨w.heap.size + 1, 4, none⟩ (.int .u32 0)).setCell ⟨w.heap.size + 1, 5, none⟩ (.int .i64 0)).setCell ⟨w.heap.size + 1, 6, none⟩ (.int .i64 0)).setCell ⟨w.heap.size + 1, 7, none⟩ (.bool false)).setCell ⟨w.heap.size + 1, 8, none⟩ (.int .i64 0)).setCell ⟨w.heap.size + 1, 9, none⟩ (.slice none 0 0)).setCell ⟨w.heap.size + 1, 10, none⟩ (.slice none 0 0)) (w.heap.size + 1) 11 (.bool false))) (grown_set (((((((((((((w1).setCell ⟨w.heap.size + 1, 0, none⟩ (.int .u32 0)).setCell ⟨w.heap.size + 1, 1, none⟩ (.int .u32 0)).setCell ⟨w.heap.size + 1, 2, none⟩ (.int .i64 0)).setCell ⟨w.heap.size + 1, 3, none⟩ (.int .u32 0)).setCell ⟨w.heap.size + 1, 4, none⟩ (.int .u32 0)).setCell ⟨w.heap.size + 1, 5, none⟩ (.int .i64 0)).setCell ⟨w.heap.size + 1, 6, none⟩ (.int .i64 0)).setCell ⟨w.heap.size + 1, 7, none⟩ (.bool false)).setCell ⟨w.heap.size + 1, 8, none⟩ (.int .i64 0)).setCell ⟨w.heap.size + 1, 9, none⟩ (.slice none 0 0)).setCell ⟨w.heap.size + 1, 10, none⟩ (.slice none 0 0)).setCell ⟨w.heap.size + 1, 11, none⟩ (.bool false)) (w.heap.size + 1) 12 (.slice none 0 0))) (grown_set ((((((((((((((w1).setCell ⟨w.heap.size + 1, 0, none⟩ (.int .u32 0)).setCell ⟨w.heap.size + 1, 1, none⟩ (.int .u32 0)).setCell ⟨w.heap.size + 1, 2, none⟩ (.int .i64 0)).setCell ⟨w.heap.size + 1, 3, none⟩ (.int .u32 0)).setCell ⟨w.heap.size + 1, 4, none⟩ (.int .u32 0)).setCell ⟨w.heap.size + 1, 5, none⟩ (.int .i64 0)).setCell ⟨w.heap.size + 1, 6, none⟩ (.int .i64 0)).setCell ⟨w.heap.size + 1, 7, none⟩ (.bool false)).setCell ⟨w.heap.size + 1, 8, none⟩ (.int .i64 0)).setCell ⟨w.heap.size + 1, 9, none⟩ (.slice none 0 0)).setCell ⟨w.heap.size + 1, 10, none⟩ (.slice none 0 0)).setCell ⟨w.heap.size + 1, 11, none⟩ (.bool false)).setCell ⟨w.heap.size + 1, 12, none⟩ (.slice none 0 0)) (w.heap.size + 1) 13 (.slice none 0 0))) (grown_set (((((((((((((((w1).setCell ⟨w.heap.size + 1, 0, none⟩ (.int .u32 0)).setCell ⟨w.heap.size + 1, 1, none⟩ (.int .u32 0)).setCell ⟨w.heap.size + 1, 2, none⟩ (.int .i64 0)).setCell ⟨w.heap.size + 1, 3, none⟩ (.int .u32 0)).setCell ⟨w.heap.size + 1, 4, none⟩ (.int .u32 0)).setCell ⟨w.heap.size + 1, 5, none⟩ (.int .i64 0)).setCell ⟨w.heap.size + 1, 6, none⟩ (.int .i64 0)).setCell ⟨w.heap.size + 1, 7, none⟩ (.bool false)).setCell ⟨w.heap.size + 1, 8, none⟩ (.int .i64 0)).setCell ⟨w.heap.size + 1, 9, none⟩ (.slice none 0 0)).setCell ⟨w.heap.size + 1, 10, none⟩ (.slice none 0 0)).setCell ⟨w.heap.size + 1, 11, none⟩ (.bool false)).setCell ⟨w.heap.size + 1, 12, none⟩ (.slice none 0 0)).setCell ⟨w.heap.size + 1, 13, none⟩ (.slice none 0 0)) (w.heap.size + 1) 14 (.int .i64 0))
    have BW' : Below w.heap.size w W' := B1.out.grown BN B1.out.size (fun j hj => by cases hj; omega)
    have FIN : Hid (HfPost w nb r (.returned (.tuple #[.agg #[.int .u32 0, .int .u32 0, .int .i64 0, .int .u32 0, .int .u32 0, .int .i64 0, .int .i64 0, .bool false, .int .i64 0, .slice none 0 0, .slice none 0 0, .bool false, .slice none 0 0, .slice none 0 0, .int .i64 0], .bool false])) W') := Lib.hid ⟨⟨0, 0, 0, 0, 0, 0, 0, false, 0, ⟨none, 0, 0⟩, ⟨none, 0, 0⟩, false, ⟨none, 0, 0⟩, ⟨none, 0, 0⟩, 0⟩, false, rfl, AD.out.symm, BW'⟩
    have HW' := Lib.hid hW'
    obtain ⟨⟨⟨z0, z1, z2, z3, z4⟩, ⟨z5, z6, z7, z8, z9⟩, ⟨z10, z11, z12, z13, z14⟩⟩, hfz⟩ := blk15 Z1.out
    have zf0 := hfz 0
    have zf1 := hfz 1
    have zf2 := hfz 2
    have zf3 := hfz 3
    have zf4 := hfz 4
    have zf5 := hfz 5
    have zf6 := hfz 6
    have zf7 := hfz 7
    have zf8 := hfz 8
    have zf9 := hfz 9
    have zf10 := hfz 10
    have zf11 := hfz 11
    have zf12 := hfz 12
    have zf13 := hfz 13
    have zf14 := hfz 14
    obtain ⟨⟨⟨g0, g1, g2, g3, g4⟩, ⟨g5, g6, g7, g8, g9⟩, ⟨g10, g11, g12, g13, g14⟩⟩, -⟩ := blk15 bk'
    have G := Lib.hid (And.intro g0 (And.intro g1 (And.intro g2 (And.intro g3 (And.intro g4 (And.intro g5 (And.intro g6 (And.intro g7 (And.intro g8 (And.intro g9 (And.intro g10 (And.intro g11 (And.intro g12 (And.intro g13 g14))))))))))))))
    clear hW' bk' BN BW' hfz g0 g1 g2 g3 g4 g5 g6 g7 g8 g9 g10 g11 g12 g13 g14
    go_wp2_with fail
    rw [HW'.out]
    obtain ⟨g0, g1, g2, g3, g4, g5, g6, g7, g8, g9, g10, g11, g12, g13, g14⟩ := G.out
    exact bodyPost_ret (v := .tuple #[.agg #[.int .u32 0, .int .u32 0, .int .i64 0, .int .u32 0, .int .u32 0, .int .i64 0, .int .i64 0, .bool false, .int .i64 0, .slice none 0 0, .slice none 0 0, .bool false, .slice none 0 0, .slice none 0 0, .int .i64 0], .bool false]) (by simp [results, Tryz.results102, go_sem, g0, g1, g2, g3, g4, g5, g6, g7, g8, g9, g10, g11, g12, g13, g14]) rfl FIN.out
  · have AD := Lib.hid (addr_some c hk no)
    obtain ⟨b1, o1, rfl, hb1, hcc1⟩ := HC1.out (by omega)
    obtain ⟨⟨d0, d1, d2, d3, d4⟩, ⟨d5, d6, d7, d8, d9⟩, ⟨d10, d11, d12, d13, d14⟩⟩ := (hcc1 k c).below B1.out hb1
    have C1 := Lib.hid (CC.out k c w1 B1.out)
    have i0 : (0 : Int) ≤ (k : Int) := by omega
    have i1 : (k : Int) < (nb.length : Int) := by omega
    have s3 : ((k : Int)).toNat = k := by omega
    have g0 : decide ((k : Int) < 0) = false := decide_eq_false (by omega)
    have y14 : w1.cell? ⟨w.heap.size, 14, none⟩ = some (.slice (some ⟨b1, o1, none⟩) nb.length c1) := blk_cell X1.out rfl
    clear no hk hcc1 CC HC1
    generalize nb[k] = n at *
    clear c
    obtain ⟨nr, na, nprio, ndr, nbdr, nst, ntil, nmas, nseq, ⟨v9a, v9n, v9c⟩, ⟨vAa, vAn, vAc⟩, nmore, ⟨vCa, vCn, vCc⟩, ⟨vDa, vDn, vDc⟩, nres⟩ := n
    simp only at d0 d1 d2 d3 d4 d5 d6 d7 d8 d9 d10 d11 d12 d13 d14 AD
    simp only [nbE] at C1
    go_wp2_with fail
    refine C1.out.mono ?_
    rintro e w2 ⟨⟨b9, x9, y9⟩, ⟨bA, xA, yA⟩, ⟨bC, xC, yC⟩, ⟨bD, xD, yD⟩, rfl, B2⟩
    have BB2 := Lib.hid (B1.out.trans (B2.mono B1.out.size))
    have Z2 := Lib.hid ((B2.block _ (blk_lt Z1.out)).trans Z1.out)
    clear C1 B2 y14 d0 d1 d2 d3 d4 d5 d6 d7 d8 d9 d10 d11 d12 d13 d14
    simp only [nbE]
    obtain ⟨W', hW'⟩ : ∃ W', (((((((((((((((w2).setCell ⟨w.heap.size + 1, 0, none⟩ (.int .u32 nr)).setCell ⟨w.heap.size + 1, 1, none⟩ (.int .u32 na)).setCell ⟨w.heap.size + 1, 2, none⟩ (.int .i64 nprio)).setCell ⟨w.heap.size + 1, 3, none⟩ (.int .u32 ndr)).setCell ⟨w.heap.size + 1, 4, none⟩ (.int .u32 nbdr)).setCell ⟨w.heap.size + 1, 5, none⟩ (.int .i64 nst)).setCell ⟨w.heap.size + 1, 6, none⟩ (.int .i64 ntil)).setCell ⟨w.heap.size + 1, 7, none⟩ (.bool nmas)).setCell ⟨w.heap.size + 1, 8, none⟩ (.int .i64 nseq)).setCell ⟨w.heap.size + 1, 9, none⟩ (.slice b9 x9 y9)).setCell ⟨w.heap.size + 1, 10, none⟩ (.slice bA xA yA)).setCell ⟨w.heap.size + 1, 11, none⟩ (.bool nmore)).setCell ⟨w.heap.size + 1, 12, none⟩ (.slice bC xC yC)).setCell ⟨w.heap.size + 1, 13, none⟩ (.slice bD xD yD)).setCell ⟨w.heap.size + 1, 14, none⟩ (.int .i64 nres) = W' := ⟨_, rfl⟩
    have bk' : W'.heap[w.heap.size + 1]? = some (.cells #[.int .u32 nr, .int .u32 na, .int .i64 nprio, .int .u32 ndr, .int .u32 nbdr, .int .i64 nst, .int .i64 ntil, .bool nmas, .int .i64 nseq, .slice b9 x9 y9, .slice bA xA yA, .bool nmore, .slice bC xC yC, .slice bD xD yD, .int .i64 nres] 72 (0, 0)) := by
      rw [← hW']
      have h1 := blk_set (blk_set (blk_set (blk_set (blk_set (blk_set (blk_set (blk_set (blk_set (blk_set (blk_set (blk_set (blk_set (blk_set (blk_set (Z2.out) 0 (.int .u32 nr)) 1 (.int .u32 na)) 2 (.int .i64 nprio)) 3 (.int .u32 ndr)) 4 (.int .u32 nbdr)) 5 (.int .i64 nst)) 6 (.int .i64 ntil)) 7 (.bool nmas)) 8 (.int .i64 nseq)) 9 (.slice b9 x9 y9)) 10 (.slice bA xA yA)) 11 (.bool nmore)) 12 (.slice bC xC yC)) 13 (.slice bD xD yD)) 14 (.int .i64 nres)
      simp only [List.setIfInBounds_toArray, List.set_cons_zero, List.set_cons_succ] at h1
      exact h1
    have BN : w2.grownBy W' (some (w.heap.size + 1)) := by
      rw [← hW']
      exact grown_grown0 (grown_grown0 (grown_grown0 (grown_grown0 (grown_grown0 (grown_grown0 (grown_grown0 (grown_grown0 (grown_grown0 (grown_grown0 (grown_grown0 (grown_grown0 (grown_grown0 (grown_grown0 (grown_grown0 (⟨rfl, rfl, rfl, Nat.le_refl _, fun _ _ _ => rfl⟩) (grown_set (w2) (w.heap.size + 1) 0 (.int .u32 nr))) (grown_set ((w2).setCell ⟨w.heap.size + 1, 0, none⟩ (.int .u32 nr)) (w.heap.size + 1) 1 (.int .u32 na))) (grown_set (((w2).setCell ⟨w.heap.size + 1, 0, none⟩ (.int .u32 nr)).setCell ⟨w.heap.size + 1, 1, none⟩ (.int .u32 na)) (w.heap.size + 1) 2 (.int .i64 nprio))) (grown_set ((((w2).setCell ⟨w.heap.size + 1, 0, none⟩ (.int .u32 nr)).setCell ⟨w.heap.size + 1, 1, none⟩ (.int .u32 na)).setCell ⟨w.heap.size + 1, 2, none⟩ (.int .i64 nprio)) (w.heap.size + 1) 3 (.int .u32 ndr))) (grown_set (((((w2).setCell ⟨w.heap.size + 1, 0, none⟩ (.int .u32 nr)).setCell ⟨w.heap.size + 1, 1, none⟩ (.int .u32 na)).setCell ⟨w.heap.size + 1, 2, none⟩ (.int .i64 nprio)).setCell ⟨w.heap.size + 1, 3, none⟩ (.int .u32 ndr)) (w.heap.size + 1) 4 (.int .u32 nbdr))) (grown_set ((((((w2).setCell ⟨w.heap.size + 1, 0, none⟩ (.int .u32 nr)).setCell ⟨w.heap.size + 1, 1, none⟩ (.int .u32 na)).setCell ⟨w.heap.size + 1, 2, none⟩ (.int .i64 nprio)).setCell ⟨w.heap.size + 1, 3, none⟩ (.int .u32 ndr)).setCell ⟨w.heap.size + 1, 4, none⟩ (.int .u32 nbdr)) (w.heap.size + 1) 5 (.int .i64 nst))) (grown_set (((((((w2).setCell ⟨w.heap.size + 1, 0, none⟩ (.int .u32 nr)).setCell ⟨w.heap.size + 1, 1, none⟩ (.int .u32 na)).setCell ⟨w.heap.size + 1, 2, none⟩ (.int .i64 nprio)).setCell ⟨w.heap.size + 1, 3, none⟩ (.int .u32 ndr)).setCell ⟨w.heap.size + 1, 4, none⟩ (.int .u32 nbdr)).setCell ⟨w.heap.size + 1, 5, none⟩ (.int .i64 nst)) (w.heap.size + 1) 6 (.int .i64 ntil))) (grown_set ((((((((w2).setCell ⟨w.heap.size + 1, 0, none⟩ (.int .u32 nr)).setCell ⟨w.heap.size + 1, 1, none⟩ (.int .u32 na)).setCell ⟨w.heap.size + 1, 2, none⟩ (.int .i64 nprio)).setCell ⟨w.heap.size + 1, 3, none⟩ (.int .u32 ndr)).setCell ⟨w.heap.size + 1, 4, none⟩ (.int .u32 nbdr)).setCell ⟨w.heap.size + 1, 5, none⟩ (.int .i64 nst)).setCell ⟨w.heap.size + 1, 6, none⟩ (.int .i64 ntil)) (w.heap.size + 1) 7 (.bool nmas))) (grown_set (((((((((w2).setCell ⟨w.heap.size + 1, 0, none⟩ (.int .u32 nr)).setCell ⟨w.heap.size + 1, 1, none⟩ (.int .u32 na)).setCell ⟨w.heap.size + 1, 2, none⟩ (.int .i64 nprio)).setCell ⟨w.heap.size + 1, 3, none⟩ (.int .u32 ndr)).setCell ⟨w.heap.size + 1, 4, none⟩ (.int .u32 nbdr)).setCell ⟨w.heap.size + 1, 5, none⟩ (.int .i64 nst)).setCell ⟨w.heap.size + 1, 6, none⟩ (.int .i64 ntil)).setCell ⟨w.heap.size + 1, 7, none⟩ (.bool nmas)) (w.heap.size + 1) 8 (.int .i64 nseq))) (grown_set ((((((((((w2).setCell ⟨w.heap.size + 1, 0, none⟩ (.int .u32 nr)).setCell ⟨w.heap.size + 1, 1, none⟩ (.int .u32 na)).setCell ⟨w.heap.size + 1, 2, none⟩ (.int .i64 nprio)).setCell ⟨w.heap.size + 1, 3, none⟩ (.int .u32 ndr)).setCell ⟨w.heap.size + 1, 4, none⟩ (.int .u32 nbdr)).setCell ⟨w.heap.size + 1, 5, none⟩ (.int .i64 nst)).setCell ⟨w.heap.size + 1, 6, none⟩ (.int .i64 ntil)).setCell ⟨w.heap.size + 1, 7, none⟩ (.bool nmas)).setCell ⟨w.heap.size + 1, 8, none⟩ (.int .i64 nseq)) (w.heap.size + 1) 9 (.slice b9 x9 y9))) (grown_set (((((((((((w2).setCell ⟨w.heap.size + 1, 0, none⟩ (.int .u32 nr)).setCell ⟨w.heap.size + 1, 1, none⟩ (.int .u32 na)).setCell ⟨w.heap.size + 1, 2, none⟩ (.int .i64 nprio)).setCell ⟨w.heap.size + 1, 3, none⟩ (.int .u32 ndr)).setCell ⟨w.heap.size + 1, 4, none⟩ (.int .u32 nbdr)).setCell ⟨w.heap.size + 1, 5, none⟩ (.int .i64 nst)).setCell ⟨w.heap.size + 1, 6, none⟩ (.int .i64 ntil)).setCell ⟨w.heap.size + 1, 7, none⟩ (.bool nmas)).setCell ⟨w.heap.size + 1, 8, none⟩ (.int .i64 nseq)).setCell ⟨w.heap.size + 1, 9, none⟩ (.slice b9 x9 y9)) (w.heap.size + 1) 10 (.slice bA xA yA))) (grown_set ((((((((((((w2).setCell ⟨w.heap.size + 1, 0, none⟩ (.int .u32 nr)).setCell ⟨w.heap.size + 1, 1, none⟩ (.int .u32 na)).setCell ⟨w.heap.size + 1, 2, none⟩ (.int .i64 nprio)).setCell ⟨w.heap.size + 1, 3, none⟩ (.int .u32 ndr)).setCell ⟨w.heap.size + 1, 4, none⟩ (.int .u32 nbdr)).setCell ⟨w.heap.size + 1, 5, none⟩ (.int .i64 nst)).setCell ⟨w.heap.size + 1, 6, none⟩ (.int .i64 ntil)).setCell ⟨w.heap.size + 1, 7, none⟩ (.bool nmas)).setCell ⟨w.heap.size + 1, 8, none⟩ (.int .i64 nseq)).setCell ⟨w.heap.size + 1, 9, none⟩ (.slice b9 x9 y9)).setCell ⟨w.heap.size + 1, 10, none⟩ (.slice bA xA yA)) (w.heap.size + 1) 11 (.bool nmore))) (grown_set (((((((((((((w2).setCell ⟨w.heap.size + 1, 0, none⟩ (.int .u32 nr)).setCell ⟨w.heap.size + 1, 1, none⟩ (.int .u32 na)).setCell ⟨w.heap.size + 1, 2, none⟩ (.int .i64 nprio)).setCell ⟨w.heap.size + 1, 3, none⟩ (.int .u32 ndr)).setCell ⟨w.heap.size + 1, 4, none⟩ (.int .u32 nbdr)).setCell ⟨w.heap.size + 1, 5, none⟩ (.int .i64 nst)).setCell ⟨w.heap.size + 1, 6, none⟩ (.int .i64 ntil)).setCell ⟨w.heap.size + 1, 7, none⟩ (.bool nmas)).setCell ⟨w.heap.size + 1, 8, none⟩ (.int .i64 nseq)).setCell ⟨w.heap.size + 1, 9, none⟩ (.slice b9 x9 y9)).setCell ⟨w.heap.size + 1, 10, none⟩ (.slice bA xA yA)).setCell ⟨w.heap.size + 1, 11, none⟩ (.bool nmore)) (w.heap.size + 1) 12 (.slice bC xC yC))) (grown_set ((((((((((((((w2).setCell ⟨w.heap.size + 1, 0, none⟩ (.int .u32 nr)).setCell ⟨w.heap.size + 1, 1, none⟩ (.int .u32 na)).setCell ⟨w.heap.size + 1, 2, none⟩ (.int .i64 nprio)).setCell ⟨w.heap.size + 1, 3, none⟩ (.int .u32 ndr)).setCell ⟨w.heap.size + 1, 4, none⟩ (.int .u32 nbdr)).setCell ⟨w.heap.size + 1, 5, none⟩ (.int .i64 nst)).setCell ⟨w.heap.size + 1, 6, none⟩ (.int .i64 ntil)).setCell ⟨w.heap.size + 1, 7, none⟩ (.bool nmas)).setCell ⟨w.heap.size + 1, 8, none⟩ (.int .i64 nseq)).setCell ⟨w.heap.size + 1, 9, none⟩ (.slice b9 x9 y9)).setCell ⟨w.heap.size + 1, 10, none⟩ (.slice bA xA yA)).setCell ⟨w.heap.size + 1, 11, none⟩ (.bool nmore)).setCell ⟨w.heap.size + 1, 12, none⟩ (.slice bC xC yC)) (w.heap.size + 1) 13 (.slice bD xD yD))) (grown_set (((((((((((((((w2).setCell ⟨w.heap.size + 1, 0, none⟩ (.int .u32 nr)).setCell ⟨w.heap.size + 1, 1, none⟩ (.int .u32 na)).setCell ⟨w.heap.size + 1, 2, none⟩ (.int .i64 nprio)).setCell ⟨w.heap.size + 1, 3, none⟩ (.int .u32 ndr)).setCell ⟨w.heap.size + 1, 4, none⟩ (.int .u32 nbdr)).setCell ⟨w.heap.size + 1, 5, none⟩ (.int .i64 nst)).setCell ⟨w.heap.size + 1, 6, none⟩ (.int .i64 ntil)).setCell ⟨w.heap.size + 1, 7, none⟩ (.bool nmas)).setCell ⟨w.heap.size + 1, 8, none⟩ (.int .i64 nseq)).setCell ⟨w.heap.size + 1, 9, none⟩ (.slice b9 x9 y9)).setCell ⟨w.heap.size + 1, 10, none⟩ (.slice bA xA yA)).setCell ⟨w.heap.size + 1, 11, none⟩ (.bool nmore)).setCell ⟨w.heap.size + 1, 12, none⟩ (.slice bC xC yC)).setCell ⟨w.heap.size + 1, 13, none⟩ (.slice bD xD yD)) (w.heap.size + 1) 14 (.int .i64 nres))
    have BW' : Below w.heap.size w W' := BB2.out.grown BN BB2.out.size (fun j hj => by cases hj; omega)
    have FIN : Hid (HfPost w nb r (.returned (.tuple #[.agg #[.int .u32 nr, .int .u32 na, .int .i64 nprio, .int .u32 ndr, .int .u32 nbdr, .int .i64 nst, .int .i64 ntil, .bool nmas, .int .i64 nseq, .slice b9 x9 y9, .slice bA xA yA, .bool nmore, .slice bC xC yC, .slice bD xD yD, .int .i64 nres], .bool true])) W') := Lib.hid ⟨⟨nr, na, nprio, ndr, nbdr, nst, ntil, nmas, nseq, ⟨b9, x9, y9⟩, ⟨bA, xA, yA⟩, nmore, ⟨bC, xC, yC⟩, ⟨bD, xD, yD⟩, nres⟩, true, rfl, AD.out.symm, BW'⟩
    have HW' := Lib.hid hW'
    obtain ⟨⟨⟨z0, z1, z2, z3, z4⟩, ⟨z5, z6, z7, z8, z9⟩, ⟨z10, z11, z12, z13, z14⟩⟩, hfz⟩ := blk15 Z2.out
    have zf0 := hfz 0
    have zf1 := hfz 1
    have zf2 := hfz 2
    have zf3 := hfz 3
    have zf4 := hfz 4
    have zf5 := hfz 5
    have zf6 := hfz 6
    have zf7 := hfz 7
    have zf8 := hfz 8
    have zf9 := hfz 9
    have zf10 := hfz 10
    have zf11 := hfz 11
    have zf12 := hfz 12
    have zf13 := hfz 13
    have zf14 := hfz 14
    obtain ⟨⟨⟨g0, g1, g2, g3, g4⟩, ⟨g5, g6, g7, g8, g9⟩, ⟨g10, g11, g12, g13, g14⟩⟩, -⟩ := blk15 bk'
    have G := Lib.hid (And.intro g0 (And.intro g1 (And.intro g2 (And.intro g3 (And.intro g4 (And.intro g5 (And.intro g6 (And.intro g7 (And.intro g8 (And.intro g9 (And.intro g10 (And.intro g11 (And.intro g12 (And.intro g13 g14))))))))))))))
    clear hW' bk' BN BW' hfz g0 g1 g2 g3 g4 g5 g6 g7 g8 g9 g10 g11 g12 g13 g14
    go_wp2_with fail
    rw [HW'.out]
    obtain ⟨g0, g1, g2, g3, g4, g5, g6, g7, g8, g9, g10, g11, g12, g13, g14⟩ := G.out
    exact bodyPost_ret (v := .tuple #[.agg #[.int .u32 nr, .int .u32 na, .int .i64 nprio, .int .u32 ndr, .int .u32 nbdr, .int .i64 nst, .int .i64 ntil, .bool nmas, .int .i64 nseq, .slice b9 x9 y9, .slice bA xA yA, .bool nmore, .slice bC xC yC, .slice bD xD yD, .int .i64 nres], .bool true]) (by simp [results, Tryz.results102, go_sem, g0, g1, g2, g3, g4, g5, g6, g7, g8, g9, g10, g11, g12, g13, g14]) rfl FIN.out

set_option maxHeartbeats 16000000 in
set_option maxRecDepth 100000 in
theorem designated_calls (x : Ifc) (nb : List Nb) (rt : Int) (w : World) (hn : NbsAt w (.slice x.na x.nn x.nc) nb) (hl : nb.length ≤ 1048576) (hb : ∀ n ∈ nb, n.v9.n ≤ 1048576 ∧ n.v10.n ≤ 1048576 ∧ n.v12.n ≤ 1048576 ∧ n.v13.n ≤ 1048576) :
    Calls Tryz.prog 77 #[.agg (ifE x).toArray, .int .u32 rt] w (DgPost w rt ⟨x, nb⟩) := by
  have FC := Lib.hid (fun W (g : Below w.heap.size w W) => full_calls x nb W (hn.below g) hl)
  have HC := Lib.hid (fun W (g : Below w.heap.size w W) => hfind_calls x nb x.dr W (hn.below g) hb)
  have HL : Hid ((fulls nb).length ≤ 1048576) := Lib.hid (Nat.le_trans (fulls_len nb) hl)
  have DP : Hid (desigP rt ⟨x, nb⟩ = if x.dr = rt then (if fulls nb = [] then none else some x.ad) else if x.dr ∈ fulls nb then some (addrOf nb x.dr) else none) := Lib.hid rfl
  have mixed : Tryz.prog.follows .mixedOrders = true := by kernel_rfl
  clear hn hl hb
  obtain ⟨L, hL⟩ : ∃ L, fulls nb = L := ⟨_, rfl⟩
  rw [hL] at DP HL
  have EL := Lib.hid hL
  clear hL
  obtain ⟨kind, pa, pl, ad, area, cost, prio, hel, dead, up, dr, bdr, el, nh, na, nn, nc⟩ := x
  simp only at DP HC
  simp only [ifE] at FC HC ⊢
  obtain ⟨W0, hW0⟩ : ∃ W0, w.alloc (.cells #[.int .i64 kind, .int .u32 pa, .int .i64 pl, .int .u32 ad, .int .u32 area, .int .i64 cost, .int .i64 prio, .int .i64 hel, .int .i64 dead, .bool up, .int .u32 dr, .int .u32 bdr, .int .i64 el, .int .i64 nh, .slice na nn nc] 69) = W0 := ⟨_, rfl⟩
  have B0 : Hid (Below w.heap.size w W0) := Lib.hid (by rw [← hW0]; exact (Below.refl _ _).alloc (Nat.le_refl _) _)
  have X0 : Hid (W0.heap[w.heap.size]? = some (.cells #[.int .i64 kind, .int .u32 pa, .int .i64 pl, .int .u32 ad, .int .u32 area, .int .i64 cost, .int .i64 prio, .int .i64 hel, .int .i64 dead, .bool up, .int .u32 dr, .int .u32 bdr, .int .i64 el, .int .i64 nh, .slice na nn nc] 69 (0, 0))) := Lib.hid (by rw [← hW0]; exact alloc_new _ _)
  have HW0 := Lib.hid hW0
  clear hW0
  have F0 := Lib.hid (FC.out W0 B0.out)
  clear FC
  obtain ⟨⟨⟨d0, d1, d2, d3, d4⟩, ⟨d5, d6, d7, d8, d9⟩, ⟨d10, d11, d12, d13, d14⟩⟩, -⟩ := blk15 X0.out
  go_enter Tryz.func77, Tryz.ntmps77
  go_upto_region 1 with fail
  rw [HW0.out]
  go_wp2_with fail
  refine F0.out.mono ?_
  rintro e w1 ⟨v1, rfl, OW, BB1⟩
  rw [EL.out] at OW
  obtain ⟨a1, c1, hv1, -⟩ := OW.at.get
  subst hv1
  have WA1 := Lib.hid OW.at
  have B1 := Lib.hid (B0.out.trans (BB1.mono B0.out.size))
  have X1 := Lib.hid ((BB1.block _ (blk_lt X0.out)).trans X0.out)
  clear OW BB1 F0 B0 X0 HW0 d0 d1 d2 d3 d4 d5 d6 d7 d8 d9 d10 d11 d12 d13 d14
  obtain ⟨⟨⟨d0, d1, d2, d3, d4⟩, ⟨d5, d6, d7, d8, d9⟩, ⟨d10, d11, d12, d13, d14⟩⟩, -⟩ := blk15 X1.out
  by_cases q : dr = rt
  · subst q
    have E1 : Hid (desigP dr ⟨⟨kind, pa, pl, ad, area, cost, prio, hel, dead, up, dr, bdr, el, nh, na, nn, nc⟩, nb⟩ = if decide (0 < L.length) = true then some ad else none) := Lib.hid (by
      rw [DP.out, if_pos rfl]
      cases L with
      | nil => rfl
      | cons y r => simp)
    obtain ⟨lb, hlb⟩ : ∃ lb, decide (0 < L.length) = lb := ⟨_, rfl⟩
    rw [hlb] at E1
    clear DP HC
    go_wp2_with fail
    exact bodyPost_ret (v := .tuple #[.int .u32 ad, .bool lb]) (by simp [results, Tryz.results77, go_sem]) rfl ⟨ad, lb, rfl, E1.out, B1.out⟩
  · have q' : (dr == rt) = false := by simpa using q
    have E1 : Hid (desigP rt ⟨⟨kind, pa, pl, ad, area, cost, prio, hel, dead, up, dr, bdr, el, nh, na, nn, nc⟩, nb⟩ = if decide (dr ∈ L) = true then some (addrOf nb dr) else none) := Lib.hid (by
      rw [DP.out, if_neg q]
      by_cases c : dr ∈ L <;> simp [c])
    obtain ⟨lb, hlb⟩ : ∃ lb, decide (dr ∈ L) = lb := ⟨_, rfl⟩
    rw [hlb] at E1
    have ELB := Lib.hid hlb
    have H1 := Lib.hid (HC.out w1 B1.out)
    clear DP HC q hlb
    go_upto_region 4 with fail
    go_wp2_with fail
    refine H1.out.mono ?_
    rintro e w2 ⟨⟨nr, nad, nprio, ndr, nbdr, nst, ntil, nmas, nseq, ⟨v9a, v9n, v9c⟩, ⟨vAa, vAn, vAc⟩, nmore, ⟨vCa, vCn, vCc⟩, ⟨vDa, vDn, vDc⟩, nres⟩, bf, rfl, had, B2⟩
    simp only at had
    have EAD := Lib.hid had
    have BB2 := Lib.hid (B1.out.trans (B2.mono B1.out.size))
    have X2 := Lib.hid ((B2.block _ (blk_lt X1.out)).trans X1.out)
    have WA2 := Lib.hid (WA1.out.below B2)
    clear H1 B2 had WA1 X1 B1 d0 d1 d2 d3 d4 d5 d6 d7 d8 d9 d10 d11 d12 d13 d14
    simp only [nbE]
    obtain ⟨W3, hW3⟩ : ∃ W3, w2.alloc (.cells #[.int .u32 nr, .int .u32 nad, .int .i64 nprio, .int .u32 ndr, .int .u32 nbdr, .int .i64 nst, .int .i64 ntil, .bool nmas, .int .i64 nseq, .slice v9a v9n v9c, .slice vAa vAn vAc, .bool nmore, .slice vCa vCn vCc, .slice vDa vDn vDc, .int .i64 nres] 72) = W3 := ⟨_, rfl⟩
    have B23 : Below w2.heap.size w2 W3 := by rw [← hW3]; exact (Below.refl _ _).alloc (Nat.le_refl _) _
    have b3 : W3.heap[w2.heap.size]? = some (.cells #[.int .u32 nr, .int .u32 nad, .int .i64 nprio, .int .u32 ndr, .int .u32 nbdr, .int .i64 nst, .int .i64 ntil, .bool nmas, .int .i64 nseq, .slice v9a v9n v9c, .slice vAa vAn vAc, .bool nmore, .slice vCa vCn vCc, .slice vDa vDn vDc, .int .i64 nres] 72 (0, 0)) := by rw [← hW3]; exact alloc_new _ _
    have B3 := Lib.hid (BB2.out.trans (B23.mono BB2.out.size))
    have x3 := (B23.block _ (blk_lt X2.out)).trans X2.out
    have CN : Hid (∀ W, Gr W3 W → Calls Tryz.prog 103 #[.slice a1 L.length c1, .int .u32 dr] W fun e w' => e = .returned (.bool lb) ∧ Gr W w') := Lib.hid (fun W g => by
      have h := has32_calls W _ L ((WA2.out.below B23).below g.b) HL.out dr
      rw [ELB.out] at h
      exact h)
    have n1 : W3.cell? ⟨w2.heap.size, 1, none⟩ = some (.int .u32 nad) := blk_cell b3 rfl
    have i10 : W3.cell? ⟨w.heap.size, 10, none⟩ = some (.int .u32 dr) := blk_cell x3 rfl
    have HW3 := Lib.hid hW3
    clear hW3 B23 b3 x3 WA2 X2 BB2
    go_upto_region 5 with fail
    rw [HW3.out]
    go_region_held3 (fun W' => W'.cell? ⟨w2.heap.size, 1, none⟩ = some (.int .u32 nad) ∧ W'.cell? ⟨w.heap.size, 10, none⟩ = some (.int .u32 dr)) (first | with_reducible exact ⟨n1, i10⟩ | with_reducible exact ⟨p1, p10⟩ | go_keep)
      (first
      | (go_at_call 103; (with_reducible refine (CN.out _ (by first | exact (Gr.refl _).drew | exact Gr.refl _)).mono ?_); rintro e w4 ⟨rfl, G4⟩; have p1 := bcell G4.b n1; have p10 := bcell G4.b i10; have FB : Hid (Below w.heap.size w w4) := Lib.hid (by first | exact B3.out.drew.trans (G4.b.mono B3.out.size) | exact B3.out.trans (G4.b.mono B3.out.size)); clear G4))
    all_goals
      go_wp2_with fail
      exact bodyPost_ret (v := .tuple #[.int .u32 nad, .bool lb]) (by simp [results, Tryz.results77, go_sem]) rfl ⟨nad, lb, rfl, by rw [E1.out, ← EAD.out], FB.out⟩

set_option maxHeartbeats 8000000 in
set_option maxRecDepth 100000 in
theorem links_lan (x : Ifc) (nb : List Nb) (rt : Int) (w : World) (hk : x.kind = 2) (hp0 : 0 ≤ x.pl) (hp1 : x.pl < 4294967296) (hn : NbsAt w (.slice x.na x.nn x.nc) nb) (hl : nb.length ≤ 1048576) (hb : ∀ n ∈ nb, n.v9.n ≤ 1048576 ∧ n.v10.n ≤ 1048576 ∧ n.v12.n ≤ 1048576 ∧ n.v13.n ≤ 1048576) :
    Calls Tryz.prog 39 #[.agg (ifE x).toArray, .int .u32 rt] w (LksPost w (lksOf rt ⟨x, nb⟩)) := by
  have HX := Lib.hid (fun W (hb' : Below w.heap.size w W) => designated_calls x nb rt W (hn.below hb') hl hb)
  have LO : Hid (lksOf rt ⟨x, nb⟩ = match desigP rt ⟨x, nb⟩ with | some a => [⟨2, a, x.ad, x.cost⟩] | none => [stubL x]) := Lib.hid (by unfold lksOf; simp only [hk]; rfl)
  clear hn hl hb
  obtain ⟨_, pa, pl, ad, area, cost, prio, hel, dead, up, dr, bdr, el, nh, na, nn, nc⟩ := x
  simp only at hk
  subst hk
  simp only at hp0 hp1 HX LO
  have cv : IntKind.wrap .u32 pl = pl := by simp [IntKind.wrap, IntKind.bits, IntKind.signed]; omega
  obtain ⟨W0, hW0⟩ : ∃ W0, w.alloc (.cells (ifE ⟨2, pa, pl, ad, area, cost, prio, hel, dead, up, dr, bdr, el, nh, na, nn, nc⟩).toArray 69) = W0 := ⟨_, rfl⟩
  have b0 : W0.heap[w.heap.size]? = some (.cells #[.int .i64 2, .int .u32 pa, .int .i64 pl, .int .u32 ad, .int .u32 area, .int .i64 cost, .int .i64 prio, .int .i64 hel, .int .i64 dead, .bool up, .int .u32 dr, .int .u32 bdr, .int .i64 el, .int .i64 nh, .slice na nn nc] 69 (0, 0)) := by rw [← hW0]; exact alloc_new w _
  have B0 : Hid (Below w.heap.size w W0) := Lib.hid (by rw [← hW0]; exact (Below.refl _ _).alloc (Nat.le_refl _) _)
  have HW0 := Lib.hid hW0
  clear hW0
  obtain ⟨⟨⟨y0, y1, y2, y3, y4⟩, ⟨y5, y6, y7, y8, y9⟩, ⟨y10, y11, y12, y13, y14⟩⟩, -⟩ := blk15 b0
  have H0 := Lib.hid b0
  clear b0
  go_enter Tryz.func39, Tryz.ntmps39
  go_upto_region 1 with fail
  rw [HW0.out]
  go_upto_region 2 with fail
  generalize hW1 : W0.alloc _ = W1
  have b1 : W1.heap[W0.heap.size]? = some (.cells #[.int .i64 2, .int .u32 pa, .int .i64 pl, .int .u32 ad, .int .u32 area, .int .i64 cost, .int .i64 prio, .int .i64 hel, .int .i64 dead] 66 (0, 0)) := by rw [← hW1]; exact alloc_new _ _
  have B1 : Hid (Below w.heap.size w W1) := Lib.hid (by rw [← hW1]; exact B0.out.alloc B0.out.size _)
  have H1 : Hid (W1.heap[w.heap.size]? = some (.cells #[.int .i64 2, .int .u32 pa, .int .i64 pl, .int .u32 ad, .int .u32 area, .int .i64 cost, .int .i64 prio, .int .i64 hel, .int .i64 dead, .bool up, .int .u32 dr, .int .u32 bdr, .int .i64 el, .int .i64 nh, .slice na nn nc] 69 (0, 0))) := Lib.hid (by rw [← hW1]; exact (alloc_get _ _ _ (blk_lt H0.out)).trans H0.out)
  have c0 : W1.cell? ⟨W0.heap.size, 0, none⟩ = some (.int .i64 2) := blk_cell b1 rfl
  have c1 : W1.cell? ⟨W0.heap.size, 1, none⟩ = some (.int .u32 pa) := blk_cell b1 rfl
  have c2 : W1.cell? ⟨W0.heap.size, 2, none⟩ = some (.int .i64 pl) := blk_cell b1 rfl
  have c3 : W1.cell? ⟨W0.heap.size, 3, none⟩ = some (.int .u32 ad) := blk_cell b1 rfl
  have c5 : W1.cell? ⟨W0.heap.size, 5, none⟩ = some (.int .i64 cost) := blk_cell b1 rfl
  have G1 := Lib.hid b1
  clear hW1 b1 y0 y1 y2 y3 y4 y5 y6 y7 y8 y9 y10 y11 y12 y13 y14 B0 H0
  go_upto_region 3 with fail
  generalize hW2 : W1.alloc _ = W2
  have b2 : W2.heap[W1.heap.size]? = some (.cells #[.int .i64 3, .int .u32 pa, .int .u32 pl, .int .i64 cost] 82 (0, 0)) := by rw [← hW2]; exact alloc_new _ _
  have B2 : Hid (Below w.heap.size w W2) := Lib.hid (by rw [← hW2]; exact B1.out.alloc B1.out.size _)
  have H2 : Hid (W2.heap[w.heap.size]? = some (.cells #[.int .i64 2, .int .u32 pa, .int .i64 pl, .int .u32 ad, .int .u32 area, .int .i64 cost, .int .i64 prio, .int .i64 hel, .int .i64 dead, .bool up, .int .u32 dr, .int .u32 bdr, .int .i64 el, .int .i64 nh, .slice na nn nc] 69 (0, 0))) := Lib.hid (by rw [← hW2]; exact (alloc_get _ _ _ (blk_lt H1.out)).trans H1.out)
  have G2 : Hid (W2.heap[W0.heap.size]? = some (.cells #[.int .i64 2, .int .u32 pa, .int .i64 pl, .int .u32 ad, .int .u32 area, .int .i64 cost, .int .i64 prio, .int .i64 hel, .int .i64 dead] 66 (0, 0))) := Lib.hid (by rw [← hW2]; exact (alloc_get _ _ _ (blk_lt G1.out)).trans G1.out)
  have e0 : W2.cell? ⟨W1.heap.size, 0, none⟩ = some (.int .i64 3) := blk_cell b2 rfl
  have e1 : W2.cell? ⟨W1.heap.size, 1, none⟩ = some (.int .u32 pa) := blk_cell b2 rfl
  have e2 : W2.cell? ⟨W1.heap.size, 2, none⟩ = some (.int .u32 pl) := blk_cell b2 rfl
  have e3 : W2.cell? ⟨W1.heap.size, 3, none⟩ = some (.int .i64 cost) := blk_cell b2 rfl
  have k0 : W2.cell? ⟨W0.heap.size, 0, none⟩ = some (.int .i64 2) := blk_cell G2.out rfl
  clear hW2 b2 c0 c1 c2 c3 c5 H1 G1 B1
  have D2 := Lib.hid (HX.out W2 B2.out)
  clear HX
  simp only [ifE] at D2
  obtain ⟨⟨⟨y0, y1, y2, y3, y4⟩, ⟨y5, y6, y7, y8, y9⟩, ⟨y10, y11, y12, y13, y14⟩⟩, -⟩ := blk15 H2.out
  go_upto_region 15 with fail
  go_wp2_with fail
  refine D2.out.mono ?_
  rintro e w3 ⟨a, b, rfl, hd, BB3⟩
  rw [hd] at LO
  have B3 := Lib.hid (B2.out.trans (BB3.mono B2.out.size))
  have G3 : w3.heap[W0.heap.size]? = _ := (BB3.block _ (blk_lt G2.out)).trans G2.out
  have k3 : w3.cell? ⟨W0.heap.size, 3, none⟩ = some (.int .u32 ad) := blk_cell G3 rfl
  have k5 : w3.cell? ⟨W0.heap.size, 5, none⟩ = some (.int .i64 cost) := blk_cell G3 rfl
  have up : ∀ {o : Nat} {u : Value}, W2.cell? ⟨W1.heap.size, o, none⟩ = some u → w3.cell? ⟨W1.heap.size, o, none⟩ = some u := fun {o u} hh => (World.cell?_of_block (w := W2) (w' := w3) (a := ⟨W1.heap.size, o, none⟩) (BB3.block _ (World.block_lt_of_cell? _ _ hh))).trans hh
  have s0 := up e0
  have s1 := up e1
  have s2 := up e2
  have s3 := up e3
  clear D2 hd BB3 G3 up e0 e1 e2 e3 k0 y0 y1 y2 y3 y4 y5 y6 y7 y8 y9 y10 y11 y12 y13 y14 H2 G2 B2
  cases b with
  | true =>
    obtain ⟨W4, hW4⟩ : ∃ W4, w3.alloc (.cells #[.int .i64 2, .int .u32 a, .int .u32 ad, .int .i64 cost] 82) = W4 := ⟨_, rfl⟩
    have FIN : Hid (LksPost w (lksOf rt ⟨⟨2, pa, pl, ad, area, cost, prio, hel, dead, up, dr, bdr, el, nh, na, nn, nc⟩, nb⟩) (.returned (.slice (some ⟨w3.heap.size, 0, none⟩) 1 1)) W4) := Lib.hid ⟨_, rfl, by rw [LO.out, ← hW4]; exact sl_one (vals := lnkE ⟨2, a, ad, cost⟩), (fun b off n c e => by cases e; exact B3.out.size), by rw [← hW4]; exact B3.out.alloc B3.out.size _⟩
    have HW4 := Lib.hid hW4
    clear hW4 LO
    go_wp2_with fail
    rw [HW4.out]
    go_ret
    exact FIN.out
  | false =>
    obtain ⟨W4, hW4⟩ : ∃ W4, w3.alloc (.cells #[.int .i64 3, .int .u32 pa, .int .u32 pl, .int .i64 cost] 82) = W4 := ⟨_, rfl⟩
    have FIN : Hid (LksPost w (lksOf rt ⟨⟨2, pa, pl, ad, area, cost, prio, hel, dead, up, dr, bdr, el, nh, na, nn, nc⟩, nb⟩) (.returned (.slice (some ⟨w3.heap.size, 0, none⟩) 1 1)) W4) := Lib.hid ⟨_, rfl, by rw [LO.out, ← hW4]; exact sl_one (vals := lnkE ⟨3, pa, pl, cost⟩), (fun b off n c e => by cases e; exact B3.out.size), by rw [← hW4]; exact B3.out.alloc B3.out.size _⟩
    have HW4 := Lib.hid hW4
    clear hW4 LO
    go_wp2_with fail
    rw [HW4.out]
    go_ret
    exact FIN.out

theorem links_calls2 (d : IfD) (rt : Int) (w : World) (ok : IfOk d) (hn : IfIn w d) (hl : d.nb.length ≤ 1048576) (hb : ∀ n ∈ d.nb, n.v9.n ≤ 1048576 ∧ n.v10.n ≤ 1048576 ∧ n.v12.n ≤ 1048576 ∧ n.v13.n ≤ 1048576) :
    Calls Tryz.prog 39 #[.agg (ifE d.x).toArray, .int .u32 rt] w (LksPost w (lksOf rt d)) := by
  obtain ⟨x, nb⟩ := d
  have h1 := ok.k1
  have h3 := ok.k3
  have p0 := ok.p0
  have p1 := ok.p1
  simp only at h1 h3 p0 p1
  rcases (show x.kind = 3 ∨ x.kind = 1 ∨ x.kind = 2 by omega) with k | k | k
  · have := links_stub x rt w k p0 (by omega)
    rw [show lksOf rt ⟨x, nb⟩ = [stubL x] from by unfold lksOf; simp only [k, if_pos]] 
    exact this
  · have := links_point x nb rt w k p0 (by omega) hn.nb hl
    rw [show lksOf rt ⟨x, nb⟩ = stubL x :: (fulls nb).map (pointL x) from by unfold lksOf; simp only [k]; rfl]
    exact this
  · exact links_lan x nb rt w k p0 (by omega) hn.nb hl hb

theorem chk26_ok {x : Ifc} (h : chk26 x = 0) : 1 ≤ x.kind ∧ x.kind ≤ 3 ∧ 0 ≤ x.pl ∧ x.pl ≤ 32 := by
  unfold chk26 at h
  split at h
  · cases h
  rename_i h1
  split at h
  · cases h
  rename_i h2
  have h1 : withinB x.kind 1 3 = true := by simpa using h1
  have h2 : fitsB x.pa x.pl = true := by
    cases e : fitsB x.pa x.pl with
    | true => rfl
    | false => exact absurd (.inl e) h2
  unfold withinB at h1
  simp at h1
  have := fitsB_len h2
  omega

end Go.Proofs.YtddageahmgaigaaGreat

namespace Go.Proofs.YtddageahmgaigaaGreat
open Go.ChangeShapes Go.WideShapes Go.ChangeAt Go.RowKit Go.Deep

theorem mem_sum {α : Type} (m : α → Nat) : ∀ (l : List α) (x : α), x ∈ l → m x ≤ (l.map m).sum
  | [], _, h => by cases h
  | y :: r, x, h => by
    rw [List.map_cons, List.sum_cons]
    rcases List.mem_cons.1 h with rfl | h
    · omega
    · have := mem_sum m r x h; omega

section
variable {H : Type} {enc : TypeId × Value → H} {W : World}

theorem sl_open {t e : TypeId} (ht : Tryz.prog.underlying t = some (.slice e)) {fuel : Nat} {v : Value} {x : DataW H × List MemPlace} (h : DataW.trod enc Tryz.prog W 0 (fun _ => true) true fuel t [v] = some x) : ∃ a n c, v = .slice a n c := by
  rcases open_slice ht h with ⟨hcs, hx⟩ | ⟨a, len, cap, mm, n, D, Pl, hcs, _⟩
  · exact ⟨none, 0, 0, by simpa using hcs⟩
  · exact ⟨some a, len, cap, by simpa using hcs⟩

set_option maxRecDepth 100000 in
theorem lsc_open (n : Nat) (cs : List Value) (x : DataW H × List MemPlace) (h : DataW.trod enc Tryz.prog W 0 (fun _ => true) true n 26 cs = some x) : ∃ (r : Int) (a b : Sl), cs = [.int .u32 r, .slice a.a a.n a.c, .slice b.a b.n b.c] ∧ 0 ≤ r ∧ r < 4294967296 := by
  obtain ⟨xs, m, _, hx0, hcl, hxl, hf⟩ := DataW.trod_struct Tryz.underlying26 h
  rw [show Tryz.prog.cellsOf 26 = 3 from by kernel_rfl] at hcl
  match cs, hcl with
  | [c0, c1, c2], _ =>
    have hx : xs.length = 3 := hxl
    match xs, hx with
    | [x0, x1, x2], _ =>
      have f0 : DataW.trod enc Tryz.prog W 0 (fun _ => true) true m 22 (([c0, c1, c2].drop 0).take (Tryz.prog.cellsOf 22)) = some x0 := hf 0 _ rfl
      rw [show Tryz.prog.cellsOf 22 = 1 from by kernel_rfl] at f0
      obtain ⟨n0, e0, _, w0⟩ := DataW.trod_int Tryz.underlying22 f0
      simp at e0
      have f1 : DataW.trod enc Tryz.prog W 0 (fun _ => true) true m 23 (([c0, c1, c2].drop 1).take (Tryz.prog.cellsOf 23)) = some x1 := hf 1 _ rfl
      rw [show Tryz.prog.cellsOf 23 = 1 from by kernel_rfl] at f1
      obtain ⟨a1, l1, p1, e1⟩ := sl_open Tryz.underlying23 f1
      have f2 : DataW.trod enc Tryz.prog W 0 (fun _ => true) true m 24 (([c0, c1, c2].drop 2).take (Tryz.prog.cellsOf 24)) = some x2 := hf 2 _ rfl
      rw [show Tryz.prog.cellsOf 24 = 1 from by kernel_rfl] at f2
      obtain ⟨a2, l2, p2, e2⟩ := sl_open Tryz.underlying24 f2
      have hB : Rows.uptoBulk x.1 = Rows.uptoBulkAll ([x0, x1, x2].map (·.1)) + 1 := by rw [hx0]; simp only [Rows.uptoBulk]
      simp only [List.map_cons, List.map_nil, Rows.uptoBulkAll] at hB
      have h0 := u32_of_wf w0
      subst e0 e1 e2
      exact ⟨n0, ⟨a1, l1, p1⟩, ⟨a2, l2, p2⟩, rfl, h0.1, h0.2⟩

set_option maxRecDepth 100000 in
theorem stt_open (n : Nat) (cs : List Value) (x : DataW H × List MemPlace) (h : DataW.trod enc Tryz.prog W 0 (fun _ => true) true n 32 cs = some x) : ∃ (s : Stt) (ifs : List IfD), cs = sttE s ∧ IfsAt W (.slice s.ia s.iN s.ic) ifs ∧ (∀ d ∈ ifs, IfG W d) ∧ (ifs.map ifW).sum ≤ Rows.uptoBulk x.1 ∧ 0 ≤ s.rt ∧ s.rt < 4294967296 := by
  obtain ⟨xs, m, _, hx0, hcl, hxl, hf⟩ := DataW.trod_struct Tryz.underlying32 h
  rw [show Tryz.prog.cellsOf 32 = 8 from by kernel_rfl] at hcl
  match cs, hcl with
  | [c0, c1, c2, c3, c4, c5, c6, c7], _ =>
    have hx : xs.length = 6 := hxl
    match xs, hx with
    | [x0, x1, x2, x3, x4, x5], _ =>
      have f0 : DataW.trod enc Tryz.prog W 0 (fun _ => true) true m 26 (([c0, c1, c2, c3, c4, c5, c6, c7].drop 0).take (Tryz.prog.cellsOf 26)) = some x0 := hf 0 _ rfl
      rw [show Tryz.prog.cellsOf 26 = 3 from by kernel_rfl] at f0
      obtain ⟨r, ci, cr, e0, q0, q1⟩ := lsc_open _ _ _ f0
      simp at e0
      obtain ⟨k0, k1, k2⟩ := e0
      have f1 : DataW.trod enc Tryz.prog W 0 (fun _ => true) true m 3 (([c0, c1, c2, c3, c4, c5, c6, c7].drop 3).take (Tryz.prog.cellsOf 3)) = some x1 := hf 1 _ rfl
      rw [show Tryz.prog.cellsOf 3 = 1 from by kernel_rfl] at f1
      obtain ⟨n1, e1, _, w1⟩ := DataW.trod_int Tryz.underlying3 f1
      simp at e1
      have f2 : DataW.trod enc Tryz.prog W 0 (fun _ => true) true m 27 (([c0, c1, c2, c3, c4, c5, c6, c7].drop 4).take (Tryz.prog.cellsOf 27)) = some x2 := hf 2 _ rfl
      rw [show Tryz.prog.cellsOf 27 = 1 from by kernel_rfl] at f2
      obtain ⟨s2, p2, l2, e2, g2, o2, b2, t2⟩ := slv_openb (default : IfD) (fun d => ifE d.x) (IfG W) ifW Tryz.underlying27 (by kernel_rfl : Tryz.prog.cellsOf 69 = 15) (by omega) (fun _ => rfl) if_open f2
      have f3 : DataW.trod enc Tryz.prog W 0 (fun _ => true) true m 28 (([c0, c1, c2, c3, c4, c5, c6, c7].drop 5).take (Tryz.prog.cellsOf 28)) = some x3 := hf 3 _ rfl
      rw [show Tryz.prog.cellsOf 28 = 1 from by kernel_rfl] at f3
      obtain ⟨a3, l3, p3, e3⟩ := sl_open Tryz.underlying28 f3
      have f4 : DataW.trod enc Tryz.prog W 0 (fun _ => true) true m 29 (([c0, c1, c2, c3, c4, c5, c6, c7].drop 6).take (Tryz.prog.cellsOf 29)) = some x4 := hf 4 _ rfl
      rw [show Tryz.prog.cellsOf 29 = 1 from by kernel_rfl] at f4
      obtain ⟨a4, l4, p4, e4⟩ := sl_open Tryz.underlying29 f4
      have f5 : DataW.trod enc Tryz.prog W 0 (fun _ => true) true m 30 (([c0, c1, c2, c3, c4, c5, c6, c7].drop 7).take (Tryz.prog.cellsOf 30)) = some x5 := hf 5 _ rfl
      rw [show Tryz.prog.cellsOf 30 = 1 from by kernel_rfl] at f5
      obtain ⟨a5, l5, p5, e5⟩ := sl_open Tryz.underlying30 f5
      have hB : Rows.uptoBulk x.1 = Rows.uptoBulkAll ([x0, x1, x2, x3, x4, x5].map (·.1)) + 1 := by rw [hx0]; simp only [Rows.uptoBulk]
      simp only [List.map_cons, List.map_nil, Rows.uptoBulkAll] at hB
      subst k0 k1 k2 e1 e2 e3 e4 e5
      exact ⟨⟨r, ci, cr, n1, s2, l2.length, p2, ⟨a3, l3, p3⟩, ⟨a4, l4, p4⟩, ⟨a5, l5, p5⟩⟩, l2, rfl, ⟨g2, fun d hd => (o2 d hd).inn⟩, o2, by omega, q0, q1⟩

set_option maxRecDepth 100000 in
theorem sttv_open {v : Value} {d : DataW H} {p : List MemPlace} {base : Nat} (hv : Value.okWide Tryz.prog W .any base 32 v) (h : DataW.Trod enc Tryz.prog W 0 (fun _ => true) true 32 v d p) : ∃ (s : Stt) (ifs : List IfD), v = .agg (sttE s).toArray ∧ IfsAt W (.slice s.ia s.iN s.ic) ifs ∧ (∀ d ∈ ifs, IfG W d) ∧ (ifs.map ifW).sum ≤ Rows.uptoBulk d ∧ 0 ≤ s.rt ∧ s.rt < 4294967296 := by
  obtain ⟨cs, rfl, _⟩ := okWide_struct (t := 32) Tryz.underlying32 hv
  obtain ⟨fuel, hf⟩ := h
  obtain ⟨s, ifs, hr, h2, h3, h4, h5, h6⟩ := stt_open _ _ _ hf
  refine ⟨s, ifs, ?_, h2, h3, h4, h5, h6⟩
  have : cs.toList = sttE s := hr
  rw [← this]

end

end Go.Proofs.YtddageahmgaigaaGreat
