/-
  origin.designated.
-/
/-
  origin.links of a LAN; of whatever accepted interface.
-/
import Derived.Test.YtddageahmgaigaaGreatDse
import Derived.Test.YtddageahmgaigaaGreatLks
namespace Go.Proofs.YtddageahmgaigaaGreat
open Go.RowKit

def DgPost (w : World) (rt : Int) (d : IfD) (e : Ending) (w' : World) : Prop := ∃ (a : Int) (b : Bool), e = .returned (.tuple #[.int .u32 a, .bool b]) ∧ desigP rt d = (if b then some a else none) ∧ Below w.heap.size w w'

set_option maxHeartbeats 16000000 in
set_option maxRecDepth 100000 in
theorem designated_calls (x : Ifc) (nb : List Nb) (rt : Int) (w : World) (hn : NbsAt w (.slice x.na x.nn x.nc) nb) (hl : nb.length ≤ 1048576) (hb : ∀ n ∈ nb, n.v9.n ≤ 1048576 ∧ n.v10.n ≤ 1048576 ∧ n.v12.n ≤ 1048576 ∧ n.v13.n ≤ 1048576) :
    Calls Tryz.prog 77 #[.agg (ifE x).toArray, .int .u32 rt] w (DgPost w rt ⟨x, nb⟩) := by
  have FC := Lib.hid (fun W (g : Below w.heap.size w W) => full_calls x nb W (hn.below g) hl)
  have HC := Lib.hid (fun W (g : Below w.heap.size w W) => hfind_calls x nb x.dr W (hn.below g) hb)
  have HL : Hid ((fulls nb).length ≤ 1048576) := Lib.hid (Nat.le_trans (fulls_len nb) hl)
  have DP : Hid (desigP rt ⟨x, nb⟩ = if x.dr = rt then (if fulls nb = [] then none else some x.ad) else if x.dr ∈ fulls nb then some (addrOf nb x.dr) else none) := Lib.hid rfl
  have mixed : Tryz.prog.follows .mixedOrders = true := by kernel_rfl
  clear hn hl hb
  obtain ⟨L, hL⟩ : ∃ L, fulls nb = L := ⟨_, rfl⟩
  rw [hL] at DP HL
  have EL := Lib.hid hL
  clear hL
  obtain ⟨kind, pa, pl, ad, area, cost, prio, hel, dead, up, dr, bdr, el, nh, na, nn, nc⟩ := x
  simp only at DP HC
  simp only [ifE] at FC HC ⊢
  obtain ⟨W0, hW0⟩ : ∃ W0, w.alloc (.cells #[.int .i64 kind, .int .u32 pa, .int .i64 pl, .int .u32 ad, .int .u32 area, .int .i64 cost, .int .i64 prio, .int .i64 hel, .int .i64 dead, .bool up, .int .u32 dr, .int .u32 bdr, .int .i64 el, .int .i64 nh, .slice na nn nc] 69) = W0 := ⟨_, rfl⟩
  have B0 : Hid (Below w.heap.size w W0) := Lib.hid (by rw [← hW0]; exact (Below.refl _ _).alloc (Nat.le_refl _) _)
  have X0 : Hid (W0.heap[w.heap.size]? = some (.cells #[.int .i64 kind, .int .u32 pa, .int .i64 pl, .int .u32 ad, .int .u32 area, .int .i64 cost, .int .i64 prio, .int .i64 hel, .int .i64 dead, .bool up, .int .u32 dr, .int .u32 bdr, .int .i64 el, .int .i64 nh, .slice na nn nc] 69 (0, 0))) := Lib.hid (by rw [← hW0]; exact alloc_new _ _)
  have HW0 := Lib.hid hW0
  clear hW0
  have F0 := Lib.hid (FC.out W0 B0.out)
  clear FC
  obtain ⟨⟨⟨d0, d1, d2, d3, d4⟩, ⟨d5, d6, d7, d8, d9⟩, ⟨d10, d11, d12, d13, d14⟩⟩, -⟩ := blk15 X0.out
  go_enter Tryz.func77, Tryz.ntmps77
  go_upto_region 1 with fail
  rw [HW0.out]
  go_wp2_with fail
  refine F0.out.mono ?_
  rintro e w1 ⟨v1, rfl, OW, BB1⟩
  rw [EL.out] at OW
  obtain ⟨a1, c1, hv1, -⟩ := OW.at.get
  subst hv1
  have WA1 := Lib.hid OW.at
  have B1 := Lib.hid (B0.out.trans (BB1.mono B0.out.size))
  have X1 := Lib.hid ((BB1.block _ (blk_lt X0.out)).trans X0.out)
  clear OW BB1 F0 B0 X0 HW0 d0 d1 d2 d3 d4 d5 d6 d7 d8 d9 d10 d11 d12 d13 d14
  obtain ⟨⟨⟨d0, d1, d2, d3, d4⟩, ⟨d5, d6, d7, d8, d9⟩, ⟨d10, d11, d12, d13, d14⟩⟩, -⟩ := blk15 X1.out
  by_cases q : dr = rt
  · subst q
    have E1 : Hid (desigP dr ⟨⟨kind, pa, pl, ad, area, cost, prio, hel, dead, up, dr, bdr, el, nh, na, nn, nc⟩, nb⟩ = if decide (0 < L.length) = true then some ad else none) := Lib.hid (by
      rw [DP.out, if_pos rfl]
      cases L with
      | nil => rfl
      | cons y r => simp)
    obtain ⟨lb, hlb⟩ : ∃ lb, decide (0 < L.length) = lb := ⟨_, rfl⟩
    rw [hlb] at E1
    clear DP HC
    go_wp2_with fail
    exact bodyPost_ret (v := .tuple #[.int .u32 ad, .bool lb]) (by simp [results, Tryz.results77, go_sem]) rfl ⟨ad, lb, rfl, E1.out, B1.out⟩
  · have q' : (dr == rt) = false := by simpa using q
    have E1 : Hid (desigP rt ⟨⟨kind, pa, pl, ad, area, cost, prio, hel, dead, up, dr, bdr, el, nh, na, nn, nc⟩, nb⟩ = if decide (dr ∈ L) = true then some (addrOf nb dr) else none) := Lib.hid (by
      rw [DP.out, if_neg q]
      by_cases c : dr ∈ L <;> simp [c])
    obtain ⟨lb, hlb⟩ : ∃ lb, decide (dr ∈ L) = lb := ⟨_, rfl⟩
    rw [hlb] at E1
    have ELB := Lib.hid hlb
    have H1 := Lib.hid (HC.out w1 B1.out)
    clear DP HC q hlb
    go_upto_region 4 with fail
    go_wp2_with fail
    refine H1.out.mono ?_
    rintro e w2 ⟨⟨nr, nad, nprio, ndr, nbdr, nst, ntil, nmas, nseq, ⟨v9a, v9n, v9c⟩, ⟨vAa, vAn, vAc⟩, nmore, ⟨vCa, vCn, vCc⟩, ⟨vDa, vDn, vDc⟩, nres⟩, bf, rfl, had, B2⟩
    simp only at had
    have EAD := Lib.hid had
    have BB2 := Lib.hid (B1.out.trans (B2.mono B1.out.size))
    have X2 := Lib.hid ((B2.block _ (blk_lt X1.out)).trans X1.out)
    have WA2 := Lib.hid (WA1.out.below B2)
    clear H1 B2 had WA1 X1 B1 d0 d1 d2 d3 d4 d5 d6 d7 d8 d9 d10 d11 d12 d13 d14
    simp only [nbE]
    obtain ⟨W3, hW3⟩ : ∃ W3, w2.alloc (.cells #[.int .u32 nr, .int .u32 nad, .int .i64 nprio, .int .u32 ndr, .int .u32 nbdr, .int .i64 nst, .int .i64 ntil, .bool nmas, .int .i64 nseq, .slice v9a v9n v9c, .slice vAa vAn vAc, .bool nmore, .slice vCa vCn vCc, .slice vDa vDn vDc, .int .i64 nres] 72) = W3 := ⟨_, rfl⟩
    have B23 : Below w2.heap.size w2 W3 := by rw [← hW3]; exact (Below.refl _ _).alloc (Nat.le_refl _) _
    have b3 : W3.heap[w2.heap.size]? = some (.cells #[.int .u32 nr, .int .u32 nad, .int .i64 nprio, .int .u32 ndr, .int .u32 nbdr, .int .i64 nst, .int .i64 ntil, .bool nmas, .int .i64 nseq, .slice v9a v9n v9c, .slice vAa vAn vAc, .bool nmore, .slice vCa vCn vCc, .slice vDa vDn vDc, .int .i64 nres] 72 (0, 0)) := by rw [← hW3]; exact alloc_new _ _
    have B3 := Lib.hid (BB2.out.trans (B23.mono BB2.out.size))
    have x3 := (B23.block _ (blk_lt X2.out)).trans X2.out
    have CN : Hid (∀ W, Gr W3 W → Calls Tryz.prog 103 #[.slice a1 L.length c1, .int .u32 dr] W fun e w' => e = .returned (.bool lb) ∧ Gr W w') := Lib.hid (fun W g => by
      have h := has32_calls W _ L ((WA2.out.below B23).below g.b) HL.out dr
      rw [ELB.out] at h
      exact h)
    have n1 : W3.cell? ⟨w2.heap.size, 1, none⟩ = some (.int .u32 nad) := blk_cell b3 rfl
    have i10 : W3.cell? ⟨w.heap.size, 10, none⟩ = some (.int .u32 dr) := blk_cell x3 rfl
    have HW3 := Lib.hid hW3
    clear hW3 B23 b3 x3 WA2 X2 BB2
    go_upto_region 5 with fail
    rw [HW3.out]
    go_region_held3 (fun W' => W'.cell? ⟨w2.heap.size, 1, none⟩ = some (.int .u32 nad) ∧ W'.cell? ⟨w.heap.size, 10, none⟩ = some (.int .u32 dr)) (first | with_reducible exact ⟨n1, i10⟩ | with_reducible exact ⟨p1, p10⟩ | go_keep)
      (first
      | (go_at_call 103; (with_reducible refine (CN.out _ (by first | exact (Gr.refl _).drew | exact Gr.refl _)).mono ?_); rintro e w4 ⟨rfl, G4⟩; have p1 := bcell G4.b n1; have p10 := bcell G4.b i10; have FB : Hid (Below w.heap.size w w4) := Lib.hid (by first | exact B3.out.drew.trans (G4.b.mono B3.out.size) | exact B3.out.trans (G4.b.mono B3.out.size)); clear G4))
    all_goals
      go_wp2_with fail
      exact bodyPost_ret (v := .tuple #[.int .u32 nad, .bool lb]) (by simp [results, Tryz.results77, go_sem]) rfl ⟨nad, lb, rfl, by rw [E1.out, ← EAD.out], FB.out⟩

end Go.Proofs.YtddageahmgaigaaGreat

namespace Go.Proofs.YtddageahmgaigaaGreat
open Go.RowKit

set_option maxHeartbeats 8000000 in
set_option maxRecDepth 100000 in
theorem links_lan (x : Ifc) (nb : List Nb) (rt : Int) (w : World) (hk : x.kind = 2) (hp0 : 0 ≤ x.pl) (hp1 : x.pl < 4294967296) (hn : NbsAt w (.slice x.na x.nn x.nc) nb) (hl : nb.length ≤ 1048576) (hb : ∀ n ∈ nb, n.v9.n ≤ 1048576 ∧ n.v10.n ≤ 1048576 ∧ n.v12.n ≤ 1048576 ∧ n.v13.n ≤ 1048576) :
    Calls Tryz.prog 39 #[.agg (ifE x).toArray, .int .u32 rt] w (LksPost w (lksOf rt ⟨x, nb⟩)) := by
  have HX := Lib.hid (fun W (hb' : Below w.heap.size w W) => designated_calls x nb rt W (hn.below hb') hl hb)
  have LO : Hid (lksOf rt ⟨x, nb⟩ = match desigP rt ⟨x, nb⟩ with | some a => [⟨2, a, x.ad, x.cost⟩] | none => [stubL x]) := Lib.hid (by unfold lksOf; simp only [hk]; rfl)
  clear hn hl hb
  obtain ⟨_, pa, pl, ad, area, cost, prio, hel, dead, up, dr, bdr, el, nh, na, nn, nc⟩ := x
  simp only at hk
  subst hk
  simp only at hp0 hp1 HX LO
  have cv : IntKind.wrap .u32 pl = pl := by simp [IntKind.wrap, IntKind.bits, IntKind.signed]; omega
  obtain ⟨W0, hW0⟩ : ∃ W0, w.alloc (.cells (ifE ⟨2, pa, pl, ad, area, cost, prio, hel, dead, up, dr, bdr, el, nh, na, nn, nc⟩).toArray 69) = W0 := ⟨_, rfl⟩
  have b0 : W0.heap[w.heap.size]? = some (.cells #[.int .i64 2, .int .u32 pa, .int .i64 pl, .int .u32 ad, .int .u32 area, .int .i64 cost, .int .i64 prio, .int .i64 hel, .int .i64 dead, .bool up, .int .u32 dr, .int .u32 bdr, .int .i64 el, .int .i64 nh, .slice na nn nc] 69 (0, 0)) := by rw [← hW0]; exact alloc_new w _
  have B0 : Hid (Below w.heap.size w W0) := Lib.hid (by rw [← hW0]; exact (Below.refl _ _).alloc (Nat.le_refl _) _)
  have HW0 := Lib.hid hW0
  clear hW0
  obtain ⟨⟨⟨y0, y1, y2, y3, y4⟩, ⟨y5, y6, y7, y8, y9⟩, ⟨y10, y11, y12, y13, y14⟩⟩, -⟩ := blk15 b0
  have H0 := Lib.hid b0
  clear b0
  go_enter Tryz.func39, Tryz.ntmps39
  go_upto_region 1 with fail
  rw [HW0.out]
  go_upto_region 2 with fail
  generalize hW1 : W0.alloc _ = W1
  have b1 : W1.heap[W0.heap.size]? = some (.cells #[.int .i64 2, .int .u32 pa, .int .i64 pl, .int .u32 ad, .int .u32 area, .int .i64 cost, .int .i64 prio, .int .i64 hel, .int .i64 dead] 66 (0, 0)) := by rw [← hW1]; exact alloc_new _ _
  have B1 : Hid (Below w.heap.size w W1) := Lib.hid (by rw [← hW1]; exact B0.out.alloc B0.out.size _)
  have H1 : Hid (W1.heap[w.heap.size]? = some (.cells #[.int .i64 2, .int .u32 pa, .int .i64 pl, .int .u32 ad, .int .u32 area, .int .i64 cost, .int .i64 prio, .int .i64 hel, .int .i64 dead, .bool up, .int .u32 dr, .int .u32 bdr, .int .i64 el, .int .i64 nh, .slice na nn nc] 69 (0, 0))) := Lib.hid (by rw [← hW1]; exact (alloc_get _ _ _ (blk_lt H0.out)).trans H0.out)
  have c0 : W1.cell? ⟨W0.heap.size, 0, none⟩ = some (.int .i64 2) := blk_cell b1 rfl
  have c1 : W1.cell? ⟨W0.heap.size, 1, none⟩ = some (.int .u32 pa) := blk_cell b1 rfl
  have c2 : W1.cell? ⟨W0.heap.size, 2, none⟩ = some (.int .i64 pl) := blk_cell b1 rfl
  have c3 : W1.cell? ⟨W0.heap.size, 3, none⟩ = some (.int .u32 ad) := blk_cell b1 rfl
  have c5 : W1.cell? ⟨W0.heap.size, 5, none⟩ = some (.int .i64 cost) := blk_cell b1 rfl
  have G1 := Lib.hid b1
  clear hW1 b1 y0 y1 y2 y3 y4 y5 y6 y7 y8 y9 y10 y11 y12 y13 y14 B0 H0
  go_upto_region 3 with fail
  generalize hW2 : W1.alloc _ = W2
  have b2 : W2.heap[W1.heap.size]? = some (.cells #[.int .i64 3, .int .u32 pa, .int .u32 pl, .int .i64 cost] 82 (0, 0)) := by rw [← hW2]; exact alloc_new _ _
  have B2 : Hid (Below w.heap.size w W2) := Lib.hid (by rw [← hW2]; exact B1.out.alloc B1.out.size _)
  have H2 : Hid (W2.heap[w.heap.size]? = some (.cells #[.int .i64 2, .int .u32 pa, .int .i64 pl, .int .u32 ad, .int .u32 area, .int .i64 cost, .int .i64 prio, .int .i64 hel, .int .i64 dead, .bool up, .int .u32 dr, .int .u32 bdr, .int .i64 el, .int .i64 nh, .slice na nn nc] 69 (0, 0))) := Lib.hid (by rw [← hW2]; exact (alloc_get _ _ _ (blk_lt H1.out)).trans H1.out)
  have G2 : Hid (W2.heap[W0.heap.size]? = some (.cells #[.int .i64 2, .int .u32 pa, .int .i64 pl, .int .u32 ad, .int .u32 area, .int .i64 cost, .int .i64 prio, .int .i64 hel, .int .i64 dead] 66 (0, 0))) := Lib.hid (by rw [← hW2]; exact (alloc_get _ _ _ (blk_lt G1.out)).trans G1.out)
  have e0 : W2.cell? ⟨W1.heap.size, 0, none⟩ = some (.int .i64 3) := blk_cell b2 rfl
  have e1 : W2.cell? ⟨W1.heap.size, 1, none⟩ = some (.int .u32 pa) := blk_cell b2 rfl
  have e2 : W2.cell? ⟨W1.heap.size, 2, none⟩ = some (.int .u32 pl) := blk_cell b2 rfl
  have e3 : W2.cell? ⟨W1.heap.size, 3, none⟩ = some (.int .i64 cost) := blk_cell b2 rfl
  have k0 : W2.cell? ⟨W0.heap.size, 0, none⟩ = some (.int .i64 2) := blk_cell G2.out rfl
  clear hW2 b2 c0 c1 c2 c3 c5 H1 G1 B1
  have D2 := Lib.hid (HX.out W2 B2.out)
  clear HX
  simp only [ifE] at D2
  obtain ⟨⟨⟨y0, y1, y2, y3, y4⟩, ⟨y5, y6, y7, y8, y9⟩, ⟨y10, y11, y12, y13, y14⟩⟩, -⟩ := blk15 H2.out
  go_upto_region 15 with fail
  go_wp2_with fail
  refine D2.out.mono ?_
  rintro e w3 ⟨a, b, rfl, hd, BB3⟩
  rw [hd] at LO
  have B3 := Lib.hid (B2.out.trans (BB3.mono B2.out.size))
  have G3 : w3.heap[W0.heap.size]? = _ := (BB3.block _ (blk_lt G2.out)).trans G2.out
  have k3 : w3.cell? ⟨W0.heap.size, 3, none⟩ = some (.int .u32 ad) := blk_cell G3 rfl
  have k5 : w3.cell? ⟨W0.heap.size, 5, none⟩ = some (.int .i64 cost) := blk_cell G3 rfl
  have up : ∀ {o : Nat} {u : Value}, W2.cell? ⟨W1.heap.size, o, none⟩ = some u → w3.cell? ⟨W1.heap.size, o, none⟩ = some u := fun {o u} hh => (World.cell?_of_block (w := W2) (w' := w3) (a := ⟨W1.heap.size, o, none⟩) (BB3.block _ (World.block_lt_of_cell? _ _ hh))).trans hh
  have s0 := up e0
  have s1 := up e1
  have s2 := up e2
  have s3 := up e3
  clear D2 hd BB3 G3 up e0 e1 e2 e3 k0 y0 y1 y2 y3 y4 y5 y6 y7 y8 y9 y10 y11 y12 y13 y14 H2 G2 B2
  cases b with
  | true =>
    obtain ⟨W4, hW4⟩ : ∃ W4, w3.alloc (.cells #[.int .i64 2, .int .u32 a, .int .u32 ad, .int .i64 cost] 82) = W4 := ⟨_, rfl⟩
    have FIN : Hid (LksPost w (lksOf rt ⟨⟨2, pa, pl, ad, area, cost, prio, hel, dead, up, dr, bdr, el, nh, na, nn, nc⟩, nb⟩) (.returned (.slice (some ⟨w3.heap.size, 0, none⟩) 1 1)) W4) := Lib.hid ⟨_, rfl, by rw [LO.out, ← hW4]; exact sl_one (vals := lnkE ⟨2, a, ad, cost⟩), (fun b off n c e => by cases e; exact B3.out.size), by rw [← hW4]; exact B3.out.alloc B3.out.size _⟩
    have HW4 := Lib.hid hW4
    clear hW4 LO
    go_wp2_with fail
    rw [HW4.out]
    go_ret
    exact FIN.out
  | false =>
    obtain ⟨W4, hW4⟩ : ∃ W4, w3.alloc (.cells #[.int .i64 3, .int .u32 pa, .int .u32 pl, .int .i64 cost] 82) = W4 := ⟨_, rfl⟩
    have FIN : Hid (LksPost w (lksOf rt ⟨⟨2, pa, pl, ad, area, cost, prio, hel, dead, up, dr, bdr, el, nh, na, nn, nc⟩, nb⟩) (.returned (.slice (some ⟨w3.heap.size, 0, none⟩) 1 1)) W4) := Lib.hid ⟨_, rfl, by rw [LO.out, ← hW4]; exact sl_one (vals := lnkE ⟨3, pa, pl, cost⟩), (fun b off n c e => by cases e; exact B3.out.size), by rw [← hW4]; exact B3.out.alloc B3.out.size _⟩
    have HW4 := Lib.hid hW4
    clear hW4 LO
    go_wp2_with fail
    rw [HW4.out]
    go_ret
    exact FIN.out

/-- what is asked of an interface -/
structure IfOk (d : IfD) : Prop where
  k1 : 1 ≤ d.x.kind
  k3 : d.x.kind ≤ 3
  p0 : 0 ≤ d.x.pl
  p1 : d.x.pl ≤ 32

theorem links_calls2 (d : IfD) (rt : Int) (w : World) (ok : IfOk d) (hn : IfIn w d) (hl : d.nb.length ≤ 1048576) (hb : ∀ n ∈ d.nb, n.v9.n ≤ 1048576 ∧ n.v10.n ≤ 1048576 ∧ n.v12.n ≤ 1048576 ∧ n.v13.n ≤ 1048576) :
    Calls Tryz.prog 39 #[.agg (ifE d.x).toArray, .int .u32 rt] w (LksPost w (lksOf rt d)) := by
  obtain ⟨x, nb⟩ := d
  have h1 := ok.k1
  have h3 := ok.k3
  have p0 := ok.p0
  have p1 := ok.p1
  simp only at h1 h3 p0 p1
  rcases (show x.kind = 3 ∨ x.kind = 1 ∨ x.kind = 2 by omega) with k | k | k
  · have := links_stub x rt w k p0 (by omega)
    rw [show lksOf rt ⟨x, nb⟩ = [stubL x] from by unfold lksOf; simp only [k, if_pos]] 
    exact this
  · have := links_point x nb rt w k p0 (by omega) hn.nb hl
    rw [show lksOf rt ⟨x, nb⟩ = stubL x :: (fulls nb).map (pointL x) from by unfold lksOf; simp only [k]; rfl]
    exact this
  · exact links_lan x nb rt w k p0 (by omega) hn.nb hl hb

end Go.Proofs.YtddageahmgaigaaGreat
