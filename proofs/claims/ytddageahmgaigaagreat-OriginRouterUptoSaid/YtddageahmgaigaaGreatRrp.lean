/-
  routingref30.Border, stub.
-/
/-
  routingref30.Router: what its loops carry.
-/
import Derived.Test.YtddageahmgaigaaGreatRtp
import Derived.Test.YtddageahmgaigaaGreatRae
import Derived.Test.YtddageahmgaigaaGreatDsg
namespace Go.Proofs.YtddageahmgaigaaGreat
open Go.RowKit

set_option maxHeartbeats 8000000 in
set_option maxRecDepth 100000 in
theorem rborder_calls (w : World) (v : Value) (l : List IfD) (h : IfsAt w v l) : Calls Tryz.prog 45 #[v] w (fun e w' => e = .returned (.bool (bordP l)) ∧ Below w.heap.size w w') := by
  obtain ⟨a1, c1, rfl, hlen, hc1⟩ := h.get
  have HC1 := Lib.hid hc1
  clear h hc1
  go_enter Tryz.func45, Tryz.ntmps45
  go_wp2_with fail
  go_loopw [5, 3, 4] (fun ix b o wr => ∃ k : Nat, ix = .int .i64 k ∧ k ≤ l.length ∧ b = .bool (bbK l k) ∧ o = .bool (otK l k) ∧ Hid (Below w.heap.size w wr)) (fun ix _ _ _ => l.length - (intOf ix).toNat)
  case atStart => exact ⟨0, rfl, Nat.zero_le _, rfl, rfl, Lib.hid (Below.refl _ _)⟩
  case round =>
    obtain ⟨k, rfl, hk, rfl, rfl, R⟩ := hrel
    by_cases c : k < l.length
    · obtain ⟨b1, o1, rfl, hb1, hcc1⟩ := HC1.out (by omega)
      obtain ⟨⟨d0, d1, d2, d3, d4⟩, ⟨d5, d6, d7, d8, d9⟩, ⟨d10, d11, d12, d13, d14⟩⟩ := (hcc1 k c).below R.out hb1
      have S1 := Lib.hid (bbK_succ c)
      have S2 := Lib.hid (otK_succ c)
      have KC := Lib.hid c
      have i0 : (0 : Int) ≤ (k : Int) := by omega
      have i1 : (k : Int) < (l.length : Int) := by omega
      have s3 : ((k : Int)).toNat = k := by omega
      clear hcc1
      generalize bbK l k = bb at *
      generalize otK l k = oo at *
      generalize l[k] = n at *
      clear c
      obtain ⟨⟨kind, pa, pl, ad, area, cost, prio, hel, dead, up, dr, bdr, el, nh, na, nn, nc⟩, nb⟩ := n
      simp only at d0 d1 d2 d3 d4 d5 d6 d7 d8 d9 d10 d11 d12 d13 d14 S1 S2
      clear d0 d1 d2 d3 d5 d6 d7 d8 d10 d11 d12 d13 d14
      by_cases q : area = 0
      · subst q
        cases bb <;> cases oo <;> cases up <;>
        · go_wp2_with fail
          go_roundw
          case rel => exact ⟨k + 1, by go_num, KC.out, by rw [S1.out]; rfl, by rw [S2.out]; rfl, R⟩
          case measure => simp [intOf]; have := KC.out; omega
      · have q' : (area == 0) = false := by simpa using q
        have q2 : (area != 0) = true := by simpa using q
        cases bb <;> cases oo <;> cases up <;>
        · go_wp2_with fail
          go_roundw
          case rel => exact ⟨k + 1, by go_num, KC.out, by rw [S1.out]; simp [q], by rw [S2.out]; simp [q], R⟩
          case measure => simp [intOf]; have := KC.out; omega
    · obtain rfl : k = l.length := by omega
      have E : ∀ b o, bbK l l.length = b → otK l l.length = o → bordP l = (b && o) := by intro b o h1 h2; unfold bordP; rw [h1, h2]
      have HE := Lib.hid E
      clear E
      cases hb : bbK l l.length <;> cases ho : otK l l.length <;>
      · have F := Lib.hid (HE.out _ _ hb ho)
        clear HE hb ho
        go_wp2_with fail
        go_ret
        exact ⟨by rw [F.out]; rfl, R.out⟩

def ifcE (x : Ifc) : List Value := [.int .i64 x.kind, .int .u32 x.pa, .int .i64 x.pl, .int .u32 x.ad, .int .u32 x.area, .int .i64 x.cost, .int .i64 x.prio, .int .i64 x.hel, .int .i64 x.dead]

set_option maxHeartbeats 4000000 in
set_option maxRecDepth 100000 in
theorem rstub_calls (x : Ifc) (w : World) (hp0 : 0 ≤ x.pl) (hp1 : x.pl < 4294967296) : Calls Tryz.prog 47 #[.agg (ifcE x).toArray] w (fun e w' => e = .returned (.agg (lnkE (stubL x)).toArray) ∧ Below w.heap.size w w') := by
  obtain ⟨kind, pa, pl, ad, area, cost, prio, hel, dead, up, dr, bdr, el, nh, na, nn, nc⟩ := x
  simp only at hp0 hp1
  have cv : IntKind.u32.wrap pl = pl := IntWalk.u32_in pl ⟨hp0, by omega⟩
  simp only [ifcE, stubL, lnkE]
  obtain ⟨W0, hW0⟩ : ∃ W0, (w.alloc (.cells #[.int .i64 kind, .int .u32 pa, .int .i64 pl, .int .u32 ad, .int .u32 area, .int .i64 cost, .int .i64 prio, .int .i64 hel, .int .i64 dead] 66)).alloc (.cells #[.int .i64 0, .int .u32 0, .int .u32 0, .int .i64 0] 82) = W0 := ⟨_, rfl⟩
  have B0 : Hid (Below w.heap.size w W0) := Lib.hid (by rw [← hW0]; exact ((Below.refl _ _).alloc (Nat.le_refl _) _).alloc (by simp) _)
  have b0 : W0.heap[w.heap.size]? = some (.cells #[.int .i64 kind, .int .u32 pa, .int .i64 pl, .int .u32 ad, .int .u32 area, .int .i64 cost, .int .i64 prio, .int .i64 hel, .int .i64 dead] 66 (0, 0)) := by rw [← hW0]; exact (alloc_get _ _ _ (by simp)).trans (alloc_new _ _)
  have z0 : W0.heap[w.heap.size + 1]? = some (.cells #[.int .i64 0, .int .u32 0, .int .u32 0, .int .i64 0] 82 (0, 0)) := by rw [← hW0]; exact blk_new2 w _ _
  have y1 : W0.cell? ⟨w.heap.size, 1, none⟩ = some (.int .u32 pa) := blk_cell b0 rfl
  have y2 : W0.cell? ⟨w.heap.size, 2, none⟩ = some (.int .i64 pl) := blk_cell b0 rfl
  have y5 : W0.cell? ⟨w.heap.size, 5, none⟩ = some (.int .i64 cost) := blk_cell b0 rfl
  have c0 : W0.cell? ⟨w.heap.size + 1, 0, none⟩ = some (.int .i64 0) := blk_cell z0 rfl
  have c1 : W0.cell? ⟨w.heap.size + 1, 1, none⟩ = some (.int .u32 0) := blk_cell z0 rfl
  have c2 : W0.cell? ⟨w.heap.size + 1, 2, none⟩ = some (.int .u32 0) := blk_cell z0 rfl
  have c3 : W0.cell? ⟨w.heap.size + 1, 3, none⟩ = some (.int .i64 0) := blk_cell z0 rfl
  have f0 := blk_free z0 0
  have f1 := blk_free z0 1
  have f2 := blk_free z0 2
  have f3 := blk_free z0 3
  obtain ⟨W', hW'⟩ : ∃ W', (((W0.setCell ⟨w.heap.size + 1, 0, none⟩ (.int .i64 3)).setCell ⟨w.heap.size + 1, 1, none⟩ (.int .u32 pa)).setCell ⟨w.heap.size + 1, 2, none⟩ (.int .u32 pl)).setCell ⟨w.heap.size + 1, 3, none⟩ (.int .i64 cost) = W' := ⟨_, rfl⟩
  have bk : W'.heap[w.heap.size + 1]? = some (.cells #[.int .i64 3, .int .u32 pa, .int .u32 pl, .int .i64 cost] 82 (0, 0)) := by
    rw [← hW']
    have h1 := blk_set (blk_set (blk_set (blk_set z0 0 (.int .i64 3)) 1 (.int .u32 pa)) 2 (.int .u32 pl)) 3 (.int .i64 cost)
    simp only [List.setIfInBounds_toArray, List.set_cons_zero, List.set_cons_succ] at h1
    exact h1
  have BW : Hid (Below w.heap.size w W') := Lib.hid (by
    rw [← hW']
    exact (((B0.out.setCell (p := ⟨w.heap.size + 1, 0, none⟩) (Nat.le_succ _) _).setCell (p := ⟨w.heap.size + 1, 1, none⟩) (Nat.le_succ _) _).setCell (p := ⟨w.heap.size + 1, 2, none⟩) (Nat.le_succ _) _).setCell (p := ⟨w.heap.size + 1, 3, none⟩) (Nat.le_succ _) _)
  have g0 : W'.cell? ⟨w.heap.size + 1, 0, none⟩ = some (.int .i64 3) := blk_cell bk rfl
  have g1 : W'.cell? ⟨w.heap.size + 1, 1, none⟩ = some (.int .u32 pa) := blk_cell bk rfl
  have g2 : W'.cell? ⟨w.heap.size + 1, 2, none⟩ = some (.int .u32 pl) := blk_cell bk rfl
  have g3 : W'.cell? ⟨w.heap.size + 1, 3, none⟩ = some (.int .i64 cost) := blk_cell bk rfl
  have G := Lib.hid (And.intro g0 (And.intro g1 (And.intro g2 g3)))
  have HW0 := Lib.hid hW0
  have HW' := Lib.hid hW'
  clear hW0 hW' b0 z0 bk g0 g1 g2 g3
  go_enter Tryz.func47, Tryz.ntmps47
  go_upto_region 1 with fail
  rw [HW0.out]
  go_wp2_with fail
  rw [HW'.out]
  obtain ⟨g0, g1, g2, g3⟩ := G.out
  exact bodyPost_ret (v := .agg #[.int .i64 3, .int .u32 pa, .int .u32 pl, .int .i64 cost]) (by simp [results, Tryz.results47, go_sem, g0, g1, g2, g3]) rfl ⟨rfl, BW.out⟩

end Go.Proofs.YtddageahmgaigaaGreat

namespace Go.Proofs.YtddageahmgaigaaGreat
open Go.RowKit

theorem addR_len : ∀ (l : List Lnk) (x : Lnk) (d : Bool), (addR x d l).length ≤ l.length + (if d then 0 else 1)
  | [], x, d => by cases d <;> simp [addR]
  | y :: r, x, d => by
    unfold addR
    split
    · have := addR_len r (bestL x y) d
      simp only [List.length_cons]; omega
    · split
      · next h =>
        have := addR_len r x true
        simp only [List.length_cons, if_true] at this ⊢
        rw [h.1]; simp; omega
      · have := addR_len r x d
        simp only [List.length_cons]; omega

theorem LinksOf.same {L L' l : List Lnk} (h : LinksOf L l) (e : ∀ x, x ∈ L ↔ x ∈ L') : LinksOf L' l :=
  ⟨h.1, fun x => (h.2 x).trans ⟨fun m => m.one e, fun m => m.one (fun y => (e y).symm)⟩⟩

/-- the advertisement stands in a block of its own, its links so far are those of L -/
structure RrS (w : World) (st : Array Value) (b : Nat) (X : Lsa) (L : List Lnk) (a : Option Addr) (c : Nat) (lk : List Lnk) (wx : World) : Prop where
  bk : wx.heap[b]? = some (.cells (lsaE (lsaLk X a lk.length c)).toArray 42 (0, 0))
  lat : LnksAt wx (.slice a lk.length c) lk
  fr : Fr (b + 1) (.slice a lk.length c)
  ok : LinksOf L lk
  len : lk.length ≤ L.length
  sx : wx.heap[w.heap.size]? = some (.cells st 32 (0, 0))
  sz : wx.heap[w.heap.size + 1]? = some (.cells (lsaE lsaZ).toArray 42 (0, 0))
  bel : Below w.heap.size w wx
  hb : w.heap.size + 2 ≤ b

theorem RrS.grow {w : World} {st : Array Value} {b : Nat} {X : Lsa} {L : List Lnk} {a : Option Addr} {c : Nat} {lk : List Lnk} {wx w' : World} (R : RrS w st b X L a c lk wx) (g : Below wx.heap.size wx w') : RrS w st b X L a c lk w' :=
  ⟨(g.block _ (blk_lt R.bk)).trans R.bk, R.lat.below g, R.fr, R.ok, R.len, (g.block _ (blk_lt R.sx)).trans R.sx, (g.block _ (blk_lt R.sz)).trans R.sz, R.bel.trans (g.mono R.bel.size), R.hb⟩
theorem RrS.same {w : World} {st : Array Value} {b : Nat} {X : Lsa} {L L' : List Lnk} {a : Option Addr} {c : Nat} {lk : List Lnk} {wx : World} (R : RrS w st b X L a c lk wx) (e : ∀ x, x ∈ L ↔ x ∈ L') (hl : L.length ≤ L'.length) : RrS w st b X L' a c lk wx :=
  ⟨R.bk, R.lat, R.fr, R.ok.same e, Nat.le_trans R.len hl, R.sx, R.sz, R.bel, R.hb⟩
theorem RrS.put {w : World} {st : Array Value} {b : Nat} {X : Lsa} {L : List Lnk} {a : Option Addr} {c : Nat} {lk : List Lnk} {wx w1 : World} {v : Value} {x : Lnk} (R : RrS w st b X L a c lk wx) (g : Below wx.heap.size wx w1) (h : LnksAt w1 v (addR x false lk)) (fr : Fr wx.heap.size v) :
    ∃ a' c', v = .slice a' (addR x false lk).length c' ∧ RrS w st b X (L ++ [x]) a' c' (addR x false lk) (w1.setCell ⟨b, 9, none⟩ v) := by
  have R1 := R.grow g
  obtain ⟨a', c', rfl, -⟩ := h.get
  have gs := grown_set w1 b 9 (.slice a' (addR x false lk).length c')
  have hlt := blk_lt R.bk
  have fr' : Fr (b + 1) (.slice a' (addR x false lk).length c') := fr.mono hlt
  refine ⟨a', c', rfl, ?_, h.far fr' (Nat.lt_succ_self b) gs, fr', R.ok.add x, ?_, (gs.block _ (blk_lt R1.sx) (by have := R.hb; simp; omega)).trans R1.sx, (gs.block _ (blk_lt R1.sz) (by have := R.hb; simp; omega)).trans R1.sz, R1.bel.grown gs R1.bel.size (fun j hj => by cases hj; have := R.hb; omega), R.hb⟩
  · have h1 := blk_set R1.bk 9 (.slice a' (addR x false lk).length c')
    simp only [lsaE, lsaLk, List.setIfInBounds_toArray, List.set_cons_zero, List.set_cons_succ] at h1 ⊢
    exact h1
  · have h1 : (addR x false lk).length ≤ lk.length + 1 := addR_len lk x false
    have h2 := R.len
    rw [List.length_append, List.length_singleton]; omega
/-- another block than the advertisement's stays -/
theorem put_other {w1 : World} {b b' : Nat} {v : Value} {C : Array Value} {t : TypeId} (h : w1.heap[b']? = some (.cells C t (0, 0))) (n : b' ≠ b) : (w1.setCell ⟨b, 9, none⟩ v).heap[b']? = some (.cells C t (0, 0)) :=
  ((grown_set w1 b 9 v).block _ (blk_lt h) (by simpa using n)).trans h

/-- the links of the first neighbors with a complete adjacency -/
def ptK (x : Ifc) (nb : List Nb) (i : Nat) : List Lnk := (fulls (nb.take i)).map (pointL x)
theorem ptK_skip {x : Ifc} {nb : List Nb} {i : Nat} (c : i < nb.length) (h : nb[i].st ≠ 6) : ptK x nb (i + 1) = ptK x nb i := by
  unfold ptK fulls
  rw [List.take_succ_eq_append_getElem c, List.filter_append, List.filter_cons_of_neg (by simp [h]), List.filter_nil, List.append_nil]
theorem ptK_take {x : Ifc} {nb : List Nb} {i : Nat} (c : i < nb.length) (h : nb[i].st = 6) : ptK x nb (i + 1) = ptK x nb i ++ [pointL x nb[i].r] := by
  unfold ptK fulls
  rw [List.take_succ_eq_append_getElem c, List.filter_append, List.filter_cons_of_pos (by simp [h]), List.filter_nil, List.map_append, List.map_append]; rfl
theorem ptK_all (x : Ifc) (nb : List Nb) : ptK x nb nb.length = (fulls nb).map (pointL x) := by unfold ptK; rw [List.take_length]
theorem ptK_len (x : Ifc) (nb : List Nb) (i : Nat) : (ptK x nb i).length ≤ ((fulls nb).map (pointL x)).length := by
  unfold ptK fulls
  simp only [List.length_map]
  exact ((List.take_sublist i nb).filter _).length_le

end Go.Proofs.YtddageahmgaigaaGreat
