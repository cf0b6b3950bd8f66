/-
  slices.Contains at numbers; slices.IndexFunc of neighbors by their router: hello.place.
-/
/-
  slices.Clone of headers.
-/
import Derived.Test.YtddageahmgaigaaGreatIfs
import Derived.Test.YtddageahmgaigaaGreatMem
namespace Go.Proofs.YtddageahmgaigaaGreat
open Go.RowKit

def InPost (w : World) (l : List Int) (r : Int) (e : Ending) (w' : World) : Prop := ∃ i : Int, e = .returned (.int .i64 i) ∧ (0 ≤ i ↔ r ∈ l) ∧ Gr w w'

set_option maxHeartbeats 4000000 in
theorem idx32_calls (w : World) (v : Value) (l : List Int) (h : WordsAt w v l) (hl : l.length ≤ 1048576) (r : Int) : Calls Tryz.prog 145 #[v, .int .u32 r] w (InPost w l r) := by
  obtain ⟨a, cap, rfl, hc⟩ := h.get
  have HC := Lib.hid hc
  clear h hc
  go_enter Tryz.func145, Tryz.ntmps145
  go_wp2_with fail
  go_loopw [8, 5] (fun ix _ wr => ∃ k : Nat, ix = .int .i64 k ∧ k ≤ l.length ∧ Hid (Gr w wr ∧ ∀ m, (hm : m < l.length) → m < k → l[m] ≠ r)) (fun ix _ _ => l.length - (intOf ix).toNat)
  case atStart => exact ⟨0, rfl, Nat.zero_le _, Lib.hid ⟨Gr.refl _, fun m _ hm => absurd hm (by omega)⟩⟩
  case round =>
    obtain ⟨k, rfl, hk, R⟩ := hrel
    by_cases c : k < l.length
    · obtain ⟨b, off, rfl, hb, hcc⟩ := HC.out (by omega)
      have d0 : wr.cell? ⟨b, off + k, none⟩ = some (.int .u32 l[k]) := (World.cell?_of_block (R.out.1.b.block b hb)).trans (hcc k c)
      have KC := Lib.hid c
      have i0 : (0 : Int) ≤ (k : Int) := by omega
      have i1 : (k : Int) < (l.length : Int) := by omega
      have s3 : ((k : Int)).toNat = k := by omega
      have YES : Hid (l[k] = r → InPost w l r (.returned (.int .i64 (k : Int))) wr) := Lib.hid (fun e => ⟨k, rfl, ⟨fun _ => e ▸ List.getElem_mem c, fun _ => by omega⟩, R.out.1⟩)
      have NXT : Hid (l[k] ≠ r → (Gr w wr ∧ ∀ m, (hm : m < l.length) → m < k + 1 → l[m] ≠ r)) := Lib.hid (fun e => ⟨R.out.1, fun m hm h => by
        rcases Nat.lt_or_ge m k with h' | h'
        · exact R.out.2 m hm h'
        · obtain rfl : m = k := by omega
          exact e⟩)
      clear hcc
      generalize l[k] = x at *
      clear c
      by_cases q : x = r
      · subst q
        have Y := Lib.hid (YES.out rfl)
        clear YES NXT
        go_wp2_with fail
        go_ret
        exact Y.out
      · have q' : (r == x) = false := by simpa using fun h : r = x => q h.symm
        have N := Lib.hid (NXT.out q)
        clear YES NXT q
        go_wp2_with fail
        go_roundw
        case rel => exact ⟨k + 1, by go_num, KC.out, N⟩
        case measure => simp [intOf]; have := KC.out; omega
    · have E : Hid (InPost w l r (.returned (.int .i64 (-1))) wr) := Lib.hid ⟨-1, rfl, ⟨fun h => by omega, fun h => by
        obtain ⟨i, hi, e⟩ := List.getElem_of_mem h
        exact absurd e (R.out.2 i hi (by omega))⟩, R.out.1⟩
      clear R
      go_wp2_with fail
      go_ret
      exact E.out

set_option maxHeartbeats 2000000 in
theorem has32_calls (w : World) (v : Value) (l : List Int) (h : WordsAt w v l) (hl : l.length ≤ 1048576) (r : Int) : Calls Tryz.prog 103 #[v, .int .u32 r] w fun e w' => e = .returned (.bool (decide (r ∈ l))) ∧ Gr w w' := by
  have IC := Lib.hid (idx32_calls w v l h hl r)
  obtain ⟨a, cap, rfl, -⟩ := h.get
  clear h
  go_enter Tryz.func103, Tryz.ntmps103
  go_wp2_with fail
  refine IC.out.mono ?_
  rintro e w1 ⟨i, rfl, hi, G1⟩
  have HG := Lib.hid G1
  by_cases q : r ∈ l
  · have g0 : decide (0 ≤ i) = true := decide_eq_true (hi.2 q)
    have e1 : decide (r ∈ l) = true := decide_eq_true q
    have E1 := Lib.hid e1
    clear hi q G1 e1
    go_wp2_with fail
    go_ret
    exact ⟨by rw [E1.out]; rfl, HG.out⟩
  · have g0 : decide (0 ≤ i) = false := decide_eq_false (fun h => q (hi.1 h))
    have e1 : decide (r ∈ l) = false := decide_eq_false q
    have E1 := Lib.hid e1
    clear hi q G1 e1
    go_wp2_with fail
    go_ret
    exact ⟨by rw [E1.out]; rfl, HG.out⟩

set_option maxHeartbeats 4000000 in
theorem nbis_calls (n : Nb) (r : Int) (w : World) (rb : Nat) (hr : w.heap[rb]? = some (.cells #[.int .u32 r] 22 (0, 0))) :
    Calls Tryz.prog 170 #[.agg (nbE n).toArray, .pointer (some ⟨rb, 0, none⟩)] w fun e w' => e = .returned (.bool (decide (n.r = r))) ∧ Gr w w' := by
  obtain ⟨nr, na, nprio, ndr, nbdr, nst, ntil, nmas, nseq, ⟨v9a, v9n, v9c⟩, ⟨vAa, vAn, vAc⟩, nmore, ⟨vCa, vCn, vCc⟩, ⟨vDa, vDn, vDc⟩, nres⟩ := n
  obtain ⟨W0, hW0⟩ : ∃ W0, w.alloc (.cells (nbE ⟨nr, na, nprio, ndr, nbdr, nst, ntil, nmas, nseq, ⟨v9a, v9n, v9c⟩, ⟨vAa, vAn, vAc⟩, nmore, ⟨vCa, vCn, vCc⟩, ⟨vDa, vDn, vDc⟩, nres⟩).toArray 72) = W0 := ⟨_, rfl⟩
  have b0 : W0.heap[w.heap.size]? = some (.cells (nbE ⟨nr, na, nprio, ndr, nbdr, nst, ntil, nmas, nseq, ⟨v9a, v9n, v9c⟩, ⟨vAa, vAn, vAc⟩, nmore, ⟨vCa, vCn, vCc⟩, ⟨vDa, vDn, vDc⟩, nres⟩).toArray 72 (0, 0)) := by rw [← hW0]; exact alloc_new w _
  have G0 : Hid (Gr w W0) := Lib.hid (by rw [← hW0]; exact (Gr.refl _).alloc _)
  have r0 : W0.cell? ⟨rb, 0, none⟩ = some (.int .u32 r) := blk_cell ((G0.out.b.block rb (blk_lt hr)).trans hr) rfl
  have n0 : W0.cell? ⟨w.heap.size, 0, none⟩ = some (.int .u32 nr) := blk_cell b0 rfl
  have HW0 := Lib.hid hW0
  clear hW0 b0 hr
  by_cases q : nr = r
  · subst q
    go_enter Tryz.func170, Tryz.ntmps170
    go_upto_region 1 with fail
    rw [HW0.out]
    go_wp2_with fail
    go_ret
    exact ⟨by simp, G0.out⟩
  · have q' : (nr == r) = false := by simpa using q
    have e : decide (nr = r) = false := decide_eq_false q
    simp only [e]
    go_enter Tryz.func170, Tryz.ntmps170
    go_upto_region 1 with fail
    rw [HW0.out]
    go_wp2_with fail
    go_ret
    exact ⟨rfl, G0.out⟩

/-- the first neighbor with the router -/
def PlIs (l : List Nb) (r : Int) (i : Int) : Prop := (i = -1 ∧ ∀ n ∈ l, n.r ≠ r) ∨ ∃ k : Nat, ∃ h : k < l.length, i = (k : Int) ∧ l[k].r = r ∧ ∀ m, (hm : m < k) → (l[m]'(by omega)).r ≠ r
def PlPost (w : World) (l : List Nb) (r : Int) (e : Ending) (w' : World) : Prop := ∃ i : Int, e = .returned (.int .i64 i) ∧ PlIs l r i ∧ Gr w w'

set_option maxHeartbeats 8000000 in
set_option maxRecDepth 100000 in
theorem nindex_calls (w : World) (v : Value) (l : List Nb) (h : NbsAt w v l) (r : Int) (rb : Nat) (hr : w.heap[rb]? = some (.cells #[.int .u32 r] 22 (0, 0))) :
    Calls Tryz.prog 169 #[v, .func (.func 170) #[] #[.pointer (some ⟨rb, 0, none⟩)]] w (PlPost w l r) := by
  obtain ⟨a, cap, rfl, hl, hc⟩ := h.get
  have HC := Lib.hid hc
  have T1 := Lib.hid (fun n W (G : Gr w W) => nbis_calls n r W rb ((G.b.block rb (blk_lt hr)).trans hr))
  clear h hc hr
  go_enter Tryz.func169, Tryz.ntmps169
  go_wp2_with fail
  go_loopw [8, 5] (fun ix _ wr => ∃ k : Nat, ix = .int .i64 k ∧ k ≤ l.length ∧ Hid (Gr w wr ∧ ∀ m, (hm : m < l.length) → m < k → l[m].r ≠ r)) (fun ix _ _ => l.length - (intOf ix).toNat)
  case atStart => exact ⟨0, rfl, Nat.zero_le _, Lib.hid ⟨Gr.refl _, fun m _ hm => absurd hm (by omega)⟩⟩
  case round =>
    obtain ⟨k, rfl, hk, R⟩ := hrel
    by_cases c : k < l.length
    · obtain ⟨b, off, rfl, hb, hcc⟩ := HC.out (by omega)
      obtain ⟨⟨d0, d1, d2, d3, d4⟩, ⟨d5, d6, d7, d8, d9⟩, ⟨d10, d11, d12, d13, d14⟩⟩ := (hcc k c).below R.out.1.b hb
      have TC := Lib.hid (T1.out l[k] wr R.out.1)
      have KC := Lib.hid c
      have i0 : (0 : Int) ≤ (k : Int) := by omega
      have i1 : (k : Int) < (l.length : Int) := by omega
      have s3 : ((k : Int)).toNat = k := by omega
      have YES : Hid (decide (l[k].r = r) = true → ∀ W, Gr w W → PlPost w l r (.returned (.int .i64 (k : Int))) W) := Lib.hid (fun e W g => ⟨k, rfl, .inr ⟨k, c, rfl, of_decide_eq_true e, fun m hm => R.out.2 m (by omega) hm⟩, g⟩)
      have NXT : Hid (decide (l[k].r = r) = false → ∀ W, Gr w W → (Gr w W ∧ ∀ m, (hm : m < l.length) → m < k + 1 → l[m].r ≠ r)) := Lib.hid (fun e W g => ⟨g, fun m hm h => by
        rcases Nat.lt_or_ge m k with h' | h'
        · exact R.out.2 m hm h'
        · obtain rfl : m = k := by omega
          exact of_decide_eq_false e⟩)
      clear hcc
      generalize l[k] = n at *
      clear c
      generalize decide (n.r = r) = lb at *
      obtain ⟨nr, na, nprio, ndr, nbdr, nst, ntil, nmas, nseq, ⟨v9a, v9n, v9c⟩, ⟨vAa, vAn, vAc⟩, nmore, ⟨vCa, vCn, vCc⟩, ⟨vDa, vDn, vDc⟩, nres⟩ := n
      simp only at d0 d1 d2 d3 d4 d5 d6 d7 d8 d9 d10 d11 d12 d13 d14
      simp only [nbE] at TC
      go_wp2_with fail
      refine TC.out.mono ?_
      rintro e w1 ⟨rfl, G1⟩
      have HG := Lib.hid (R.out.1.trans G1)
      clear G1 TC d0 d1 d2 d3 d4 d5 d6 d7 d8 d9 d10 d11 d12 d13 d14
      cases lb with
      | true =>
        have Y := Lib.hid (YES.out rfl _ HG.out)
        clear YES NXT
        go_wp2_with fail
        go_ret
        exact Y.out
      | false =>
        have N := Lib.hid (NXT.out rfl _ HG.out)
        clear YES NXT
        go_wp2_with fail
        go_roundw
        case rel => exact ⟨k + 1, by go_num, KC.out, N⟩
        case measure => simp [intOf]; have := KC.out; omega
    · have E : Hid (PlPost w l r (.returned (.int .i64 (-1))) wr) := Lib.hid ⟨-1, rfl, .inl ⟨rfl, fun n hn => by
        obtain ⟨i, hi, rfl⟩ := List.getElem_of_mem hn
        exact R.out.2 i hi (by omega)⟩, R.out.1⟩
      clear R
      go_wp2_with fail
      go_ret
      exact E.out

set_option maxHeartbeats 4000000 in
set_option maxRecDepth 100000 in
theorem place_calls (x : Ifc) (nb : List Nb) (r : Int) (w : World) (hn : NbsAt w (.slice x.na x.nn x.nc) nb) : Calls Tryz.prog 143 #[.agg (ifE x).toArray, .int .u32 r] w (PlPost w nb r) := by
  obtain ⟨kind, pa, pl, ad, area, cost, prio, hel, dead, up, dr, bdr, el, nh, na, nn, nc⟩ := x
  obtain ⟨W0, hW0⟩ : ∃ W0, (w.alloc (.cells (ifE ⟨kind, pa, pl, ad, area, cost, prio, hel, dead, up, dr, bdr, el, nh, na, nn, nc⟩).toArray 69)).alloc (.cells #[.int .u32 r] 22) = W0 := ⟨_, rfl⟩
  have b0 : W0.heap[w.heap.size]? = some (.cells (ifE ⟨kind, pa, pl, ad, area, cost, prio, hel, dead, up, dr, bdr, el, nh, na, nn, nc⟩).toArray 69 (0, 0)) := by rw [← hW0]; exact (alloc_get _ _ _ (by simp)).trans (alloc_new w _)
  have b1 : W0.heap[w.heap.size + 1]? = some (.cells #[.int .u32 r] 22 (0, 0)) := by rw [← hW0]; exact blk_new2 w _ _
  have G0 : Hid (Gr w W0) := Lib.hid (by rw [← hW0]; exact ((Gr.refl _).alloc _).alloc _)
  have IC := Lib.hid (nindex_calls W0 _ nb (hn.below G0.out.b) r _ b1)
  have y14 : W0.cell? ⟨w.heap.size, 14, none⟩ = some (.slice na nn nc) := blk_cell b0 rfl
  have HW0 := Lib.hid hW0
  clear hW0 b0 b1 hn
  go_enter Tryz.func143, Tryz.ntmps143
  go_upto_region 1 with fail
  rw [HW0.out]
  go_wp2_with fail
  refine IC.out.mono ?_
  rintro e w1 ⟨i, rfl, hi, G1⟩
  have FIN : Hid (PlPost w nb r (.returned (.int .i64 i)) w1) := Lib.hid ⟨i, rfl, hi, G0.out.trans G1⟩
  clear hi G1 y14
  go_wp2_with fail
  go_ret
  exact FIN.out

end Go.Proofs.YtddageahmgaigaaGreat

namespace Go.Proofs.YtddageahmgaigaaGreat
open Go.RowKit

theorem Tryz.infoHdr : (Tryz.prog.info? 37).map (fun i => (i.zero, i.size, i.bytes)) = some (some (.agg #[.int .i64 0, .int .u32 0, .int .i64 0, .int .u32 0, .int .i64 0, .int .i64 0, .int .i64 0]), 7, 56) := by kernel_rfl

/-- some slice is handed back -/
def HcPost (w : World) (e : Ending) (w' : World) : Prop := ∃ a n c, e = .returned (.slice a n c) ∧ Below w.heap.size w w'

set_option maxHeartbeats 2000000 in
set_option maxRecDepth 100000 in
theorem hclone_calls (w : World) (sa : Option Addr) (sn sc : Nat) (h : HdsAt w (.slice sa sn sc)) (hn : sn ≤ 1048576) :
    Calls Tryz.prog 171 #[.slice sa sn sc] w (HcPost w) := by
  obtain ⟨i0, hi, hz0, hz1, hz2⟩ := info_parts Tryz.infoHdr
  have HI := Lib.hid hi
  have HZ0 := Lib.hid hz0
  have HZ1 := Lib.hid hz1
  have HZ2 := Lib.hid hz2
  clear hi hz0 hz1 hz2
  obtain ⟨css, h, hlen, hone⟩ := h
  have H := Lib.hid h
  obtain ⟨a, cap, e0, h1, h2, h3, h4⟩ := h
  simp only [Value.slice.injEq] at e0
  obtain ⟨rfl, rfl, rfl⟩ := e0
  have K1 : Hid (0 + css.length ≤ maxLen) := Lib.hid (by unfold maxLen; omega)
  have K2 : Hid ((0 + css.length) * 56 ≤ 140737488355328) := Lib.hid (by omega)
  have HL := Lib.hid hlen
  have HO := Lib.hid hone
  clear hn h2 h4 hlen hone
  cases sa with
  | none =>
    have c0 := h3 rfl
    have l0 : css.length = 0 := by omega
    have l1 : css = [] := List.length_eq_zero_iff.1 l0
    subst l1
    subst c0
    have E : Hid (HcPost w (.returned (.slice none 0 0)) w) := Lib.hid ⟨none, 0, 0, rfl, Below.refl _ _⟩
    clear h1 h3 l0 H K1 K2 HL HO
    simp only [List.length_nil]
    have NL := fun W => Lib.run_eql_slice_nil (P := Tryz.prog) W 70 37 none 0 0 0 0 Tryz.underlying70
    go_enter Tryz.func171, Tryz.ntmps171
    go_wp2_with fail
    go_ret
    exact E.out
  | some ad =>
    clear h1 h3
    have NL := fun W => Lib.run_eql_slice_nil (P := Tryz.prog) W 70 37 (some ad) css.length sc 0 0 Tryz.underlying70
    have O0 : Hid ((w.alloc (.cells #[] 37)).ownsRow w.heap.size 37 7 (.slice (some ⟨w.heap.size, 0, none⟩) 0 0) 0 []) := Lib.hid (World.ownsRow_made w #[] 0 (Nat.le_refl _) (by unfold maxLen; omega) rfl)
    have HA := Lib.hid (SlV.below H.out ((Below.refl _ _).alloc (Nat.le_refl _) (.cells #[] 37)))
    have B0 : Hid (Below w.heap.size w (w.alloc (.cells #[] 37))) := Lib.hid ((Below.refl _ _).alloc (Nat.le_refl _) _)
    clear H
    go_enter Tryz.func171, Tryz.ntmps171
    go_wp2_with (at_builtin; refine wpList_append_sl rfl _ _ _ rfl w.heap.size 37 i0 _ 7 56 Tryz.underlying70 HI.out HZ0.out HZ1.out HZ2.out rfl (by decide) _ 0 [] rfl O0.out _ css rfl HA.out HL.out HO.out K1.out K2.out (by simp) ?_; intro v' w2 O2 G2; have PO := Lib.hid (show HcPost w (.returned v') w2 from by
      rcases own_cases O2 with ⟨rfl, -⟩ | ⟨g, cap, cur, rfl, -⟩
      · exact ⟨none, 0, 0, rfl, B0.out.grown G2 B0.out.size (fun j hj => (World.ownsRow.lt O0.out j hj).1)⟩
      · exact ⟨_, _, _, rfl, B0.out.grown G2 B0.out.size (fun j hj => (World.ownsRow.lt O0.out j hj).1)⟩); clear O2 G2)
    go_ret
    exact PO.out

end Go.Proofs.YtddageahmgaigaaGreat
