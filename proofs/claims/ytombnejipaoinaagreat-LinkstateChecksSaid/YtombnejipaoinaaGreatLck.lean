/-
  linkstate.checkIfaces.
-/
import Derived.Test.YtombnejipaoinaaGreatRgl
namespace Go.Proofs.YtombnejipaoinaaGreat
open Go.RowKit

def IfsAt (w : World) (v : Value) (l : List If9) : Prop := SlV 9 w v (l.map if9E)
theorem IfsAt.below {w w' : World} {v : Value} {l : List If9} (h : IfsAt w v l) (hb : Below w.heap.size w w') : IfsAt w' v l := SlV.below h hb
def IfCells (w : World) (b o : Nat) (x : If9) : Prop :=
  (w.cell? ⟨b, o, none⟩ = some (.int .i64 x.kind) ∧ w.cell? ⟨b, o + 1, none⟩ = some (.int .u32 x.pa) ∧ w.cell? ⟨b, o + 2, none⟩ = some (.int .i64 x.pl) ∧ w.cell? ⟨b, o + 3, none⟩ = some (.int .u32 x.ad)) ∧
  (w.cell? ⟨b, o + 4, none⟩ = some (.int .u32 x.area) ∧ w.cell? ⟨b, o + 5, none⟩ = some (.int .i64 x.cost) ∧ w.cell? ⟨b, o + 6, none⟩ = some (.int .i64 x.prio) ∧ w.cell? ⟨b, o + 7, none⟩ = some (.int .i64 x.hel) ∧ w.cell? ⟨b, o + 8, none⟩ = some (.int .i64 x.dead))
theorem IfCells.below {w w' : World} {b o : Nat} {x : If9} (h : IfCells w b o x) {B : Nat} (hb : Below B w w') (hlt : b < B) : IfCells w' b o x := by
  have e := fun k => World.cell?_of_block (w := w) (w' := w') (a := ⟨b, k, none⟩) (hb.block b hlt)
  obtain ⟨⟨h0, h1, h2, h3⟩, h4, h5, h6, h7, h8⟩ := h
  exact ⟨⟨(e _).trans h0, (e _).trans h1, (e _).trans h2, (e _).trans h3⟩, (e _).trans h4, (e _).trans h5, (e _).trans h6, (e _).trans h7, (e _).trans h8⟩
theorem IfsAt.get {w : World} {v : Value} {l : List If9} (h : IfsAt w v l) : ∃ a cap, v = .slice a l.length cap ∧ l.length ≤ 9223372036854775807 ∧ l.length ≤ cap ∧ (0 < l.length → ∃ b off, a = some ⟨b, off, none⟩ ∧ b < w.heap.size ∧ ∀ i (h : i < l.length), IfCells w b (off + i * 9) l[i]) := by
  have hl := SlV.len h
  obtain ⟨a, cap, h0, h1, h2, hn, h3⟩ := h
  simp only [List.length_map] at h0 h1 h3 hl
  refine ⟨a, cap, h0, hl, h1, fun hp => ?_⟩
  obtain ⟨b, off, e, h4, h5⟩ := h3 hp
  refine ⟨b, off, e, h4, fun i hi => ?_⟩
  have := h5 i (by simpa using hi)
  simp only [List.getElem_map, if9E] at this
  exact ⟨⟨this 0 _ rfl, this 1 _ rfl, this 2 _ rfl, this 3 _ rfl⟩, this 4 _ rfl, this 5 _ rfl, this 6 _ rfl, this 7 _ rfl, this 8 _ rfl⟩
def ifAt (l : List If9) (k : Nat) : If9 := if h : k < l.length then l[k] else default
theorem ifAt_eq {l : List If9} {k : Nat} (h : k < l.length) : ifAt l k = l[k] := dif_pos h

/-- do two of the prefixes share an address? -/
def ovB (l : List If9) : Bool := (List.range l.length).any fun i => (List.range i).any fun m => overB (ifAt l i).pfx (ifAt l m).pfx
theorem ovB_true {l : List If9} {i m : Nat} (hi : i < l.length) (hm : m < i) (h : overB (ifAt l i).pfx (ifAt l m).pfx = true) : ovB l = true := by
  unfold ovB
  exact List.any_eq_true.2 ⟨i, List.mem_range.2 hi, List.any_eq_true.2 ⟨m, List.mem_range.2 hm, h⟩⟩
theorem ovB_false {l : List If9} (h : ∀ i, i < l.length → ∀ m, m < i → overB (ifAt l i).pfx (ifAt l m).pfx = false) : ovB l = false := by
  unfold ovB
  rw [List.any_eq_false]
  intro i hi
  rw [Bool.not_eq_true, List.any_eq_false]
  intro m hm
  rw [Bool.not_eq_true]
  exact h i (List.mem_range.1 hi) m (List.mem_range.1 hm)

def ifsC (l : List If9) : Int := if orI (l.map chk26) = 0 then (if ovB l then 7 else 0) else orI (l.map chk26)
theorem orI_chk (l : List If9) (k : Nat) (h : k < l.length) : orI ((l.map chk26).drop k) = if chk26 (ifAt l k) = 0 then orI ((l.map chk26).drop (k + 1)) else chk26 (ifAt l k) := by
  have := orI_drop (l.map chk26) k (by simpa using h)
  rw [this, ifAt_eq h]
  simp only [List.getElem_map]

set_option maxHeartbeats 8000000 in
set_option maxRecDepth 100000 in
theorem cif_calls (w : World) (v : Value) (l : List If9) (h : IfsAt w v l) (ok : ∀ x ∈ l, OkI x) : Calls Tryz.prog 19 #[v] w (C26Post w (ifsC l)) := by
  obtain ⟨ad, cap, rfl, hlen, hcap, hc⟩ := h.get
  have HC := Lib.hid hc
  have OK : Hid (∀ k, k < l.length → OkI (ifAt l k)) := Lib.hid (fun k c => by rw [ifAt_eq c]; exact ok _ (List.getElem_mem c))
  clear h hc ok
  go_enter Tryz.func19, Tryz.ntmps19
  go_wp2_with fail
  go_loopw [12] (fun i wr => ∃ k : Nat, i = .int .i64 k ∧ k ≤ l.length ∧ Hid (Gr w wr) ∧ Hid (orI (l.map chk26) = orI ((l.map chk26).drop k))) (fun i _ => l.length - (intOf i).toNat)
  case atStart => exact ⟨0, rfl, Nat.zero_le _, Lib.hid (Gr.refl _), Lib.hid rfl⟩
  case round =>
    obtain ⟨k, rfl, hk, GG, E⟩ := hrel
    by_cases c : k < l.length
    · obtain ⟨b, off, rfl, hb0, hcc⟩ := HC.out (by omega)
      obtain ⟨⟨d0, d1, d2, d3⟩, d4, d5, d6, d7, d8⟩ : IfCells wr b (off + k * 9) (ifAt l k) := by rw [ifAt_eq c]; exact (hcc k c).below GG.out.b hb0
      have CK := Lib.hid (fun W => hcheck_calls (ifAt l k) W (OK.out k c))
      have E2 := Lib.hid (orI_chk l k c)
      have KC := Lib.hid c
      have i0 : (0 : Int) ≤ (k : Int) := by omega
      have i1 : (k : Int) < (l.length : Int) := by omega
      have s3 : ((k : Int)).toNat = k := by omega
      have IF : Hid (orI (l.map chk26) ≠ 0 → ifsC l = orI (l.map chk26)) := Lib.hid (fun h => by unfold ifsC; rw [if_neg h])
      clear hcc c
      generalize ifAt l k = x at *
      obtain ⟨kind, pa, pl, ad, area, cost, prio, hel, dead⟩ := x
      simp only [if9E] at d0 d1 d2 d3 d4 d5 d6 d7 d8 CK E2
      generalize chk26 ⟨kind, pa, pl, ad, area, cost, prio, hel, dead⟩ = cv at *
      by_cases q : cv = 0
      · have q' : (cv != 0) = false := by simpa using q
        have N : Hid (orI (l.map chk26) = orI ((l.map chk26).drop (k + 1))) := Lib.hid (by rw [E.out, E2.out, if_pos q])
        clear E E2 q
        go_wp2_with fail
        refine (CK.out _).mono ?_
        rintro e w1 ⟨rfl, G1⟩
        have G2 := Lib.hid ((GG.out.alloc _).trans G1)
        clear G1 CK d0 d1 d2 d3 d4 d5 d6 d7 d8
        go_wp2_with fail
        go_roundw
        case rel => exact ⟨k + 1, by go_num, KC.out, G2, N⟩
        case measure => simp [intOf]; have := KC.out; omega
      · have q' : (cv != 0) = true := by simpa using q
        have Y : Hid (ifsC l = cv) := Lib.hid (by
          have e : orI (l.map chk26) = cv := by rw [E.out, E2.out, if_neg q]
          rw [IF.out (by rw [e]; exact q), e])
        clear E E2 q
        go_wp2_with fail
        refine (CK.out _).mono ?_
        rintro e w1 ⟨rfl, G1⟩
        have G2 := Lib.hid ((GG.out.alloc _).trans G1)
        clear G1 CK d0 d1 d2 d3 d4 d5 d6 d7 d8
        go_wp2_with fail
        go_returns
        exact ⟨by rw [Y.out]; rfl, G2.out⟩
    · have Z : Hid (ifsC l = if ovB l then 7 else 0) := Lib.hid (by
        unfold ifsC
        rw [if_pos (by rw [E.out, List.drop_eq_nil_of_le (by simp; omega)]; rfl)])
      clear E
      go_wp2_with fail
      go_loopw [24] (fun i wr => ∃ k : Nat, i = .int .i64 k ∧ k ≤ l.length ∧ Hid (Gr w wr) ∧ Hid (∀ i, i < k → ∀ m, m < i → overB (ifAt l i).pfx (ifAt l m).pfx = false)) (fun i _ => l.length - (intOf i).toNat)
      case atStart => exact ⟨0, rfl, Nat.zero_le _, GG, Lib.hid (fun i hi => absurd hi (by omega))⟩
      case round =>
        clear GG c hk
        obtain ⟨k, rfl, hk, GG, NO⟩ := hrel
        by_cases c : k < l.length
        · obtain ⟨b, off, rfl, hb0, hcc⟩ := HC.out (by omega)
          obtain ⟨⟨d0, d1, d2, d3⟩, d4, d5, d6, d7, d8⟩ : IfCells wr b (off + k * 9) (ifAt l k) := by rw [ifAt_eq c]; exact (hcc k c).below GG.out.b hb0
          have KC := Lib.hid c
          have HH : Hid (∀ j W, j < k → Gr w W → IfCells W b (off + j * 9) (ifAt l j)) := Lib.hid (fun j W hj g => by rw [ifAt_eq (by omega)]; exact (hcc j (by omega)).below g.b hb0)
          have OO : Hid (∀ j, j ≤ k → OkI (ifAt l j)) := Lib.hid (fun j hj => OK.out j (by omega))
          have i0 : (0 : Int) ≤ (k : Int) := by omega
          have i1 : (k : Int) < (l.length : Int) := by omega
          have s3 : ((k : Int)).toNat = k := by omega
          have kc : k ≤ cap := by omega
          have YES : Hid (∀ j, j < k → overB (ifAt l k).pfx (ifAt l j).pfx = true → ovB l = true) := Lib.hid (fun j hj h => ovB_true KC.out hj h)
          have NX : Hid ((∀ j, j < k → overB (ifAt l k).pfx (ifAt l j).pfx = false) → ∀ i, i < k + 1 → ∀ m, m < i → overB (ifAt l i).pfx (ifAt l m).pfx = false) := Lib.hid (fun h i hi m hm => by
            rcases Nat.lt_or_ge i k with h' | h'
            · exact NO.out i h' m hm
            · obtain rfl : i = k := by omega
              exact h m hm)
          clear hcc c NO
          have OV := Lib.hid (fun j (hj : j < k) W => overlap_calls (ifAt l k).pfx (ifAt l j).pfx ⟨(OO.out k (Nat.le_refl _)).a0, (OO.out k (Nat.le_refl _)).a1⟩ ⟨(OO.out j (by omega)).a0, (OO.out j (by omega)).a1⟩ W)
          clear OO
          generalize hx : ifAt l k = x at *
          obtain ⟨kind, pa, pl, ad, area, cost, prio, hel, dead⟩ := x
          simp only at d0 d1 d2 d3 d4 d5 d6 d7 d8
          simp only [If9.pfx] at OV YES NX
          have AL := alloc_new wr (.cells #[.int .i64 kind, .int .u32 pa, .int .i64 pl, .int .u32 ad, .int .u32 area, .int .i64 cost, .int .i64 prio, .int .i64 hel, .int .i64 dead] 70)
          have AG := (Gr.refl wr).alloc (.cells #[.int .i64 kind, .int .u32 pa, .int .i64 pl, .int .u32 ad, .int .u32 area, .int .i64 cost, .int .i64 prio, .int .i64 hel, .int .i64 dead] 70)
          go_wp2_with fail
          generalize wr.alloc (.cells #[.int .i64 kind, .int .u32 pa, .int .i64 pl, .int .u32 ad, .int .u32 area, .int .i64 cost, .int .i64 prio, .int .i64 hel, .int .i64 dead] 70) = W1 at *
          have BB := Lib.hid AL
          have GA := Lib.hid AG
          have NBL : Hid (wr.heap.size < W1.heap.size) := Lib.hid (blk_lt AL)
          generalize wr.heap.size = nb at *
          clear AL AG d0 d1 d2 d3 d4 d5 d6 d7 d8
          go_loopw [33] (fun i wi => ∃ j : Nat, i = .int .i64 j ∧ j ≤ k ∧ Hid (Gr W1 wi) ∧ Hid (∀ m, m < j → overB ⟨pa, pl⟩ (ifAt l m).pfx = false)) (fun i _ => k - (intOf i).toNat)
          case atStart => exact ⟨0, rfl, Nat.zero_le _, Lib.hid (Gr.refl _), Lib.hid (fun m hm => absurd hm (by omega))⟩
          case round =>
            obtain ⟨j, rfl, hj, GI, NI⟩ := hrel
            by_cases c : j < k
            · have GWI := Lib.hid ((GG.out.trans GA.out).trans GI.out)
              have bb := (GI.out.b.block _ (blk_lt BB.out)).trans BB.out
              have hy := HH.out j _ c GWI.out
              have OJ := Lib.hid (OV.out j c)
              have YJ := Lib.hid (YES.out j c)
              have NJ : Hid (overB ⟨pa, pl⟩ (ifAt l j).pfx = false → ∀ m, m < j + 1 → overB ⟨pa, pl⟩ (ifAt l m).pfx = false) := Lib.hid (fun h m hm => by
                rcases Nat.lt_or_ge m j with h' | h'
                · exact NI.out m h'
                · obtain rfl : m = j := by omega
                  exact h)
              have CJ := Lib.hid c
              have j0 : (0 : Int) ≤ (j : Int) := by omega
              have j1 : (j : Int) < (k : Int) := by omega
              have t3 : ((j : Int)).toNat = j := by omega
              clear NI c
              generalize ifAt l j = y at *
              obtain ⟨ykind, ypa, ypl, yad, yarea, ycost, yprio, yhel, ydead⟩ := y
              have bb2 := (alloc_get wr (.cells #[.int .i64 ykind, .int .u32 ypa, .int .i64 ypl, .int .u32 yad, .int .u32 yarea, .int .i64 ycost, .int .i64 yprio, .int .i64 yhel, .int .i64 ydead] 70) nb (blk_lt bb)).trans bb
              have x1 : (wr.alloc (.cells #[.int .i64 ykind, .int .u32 ypa, .int .i64 ypl, .int .u32 yad, .int .u32 yarea, .int .i64 ycost, .int .i64 yprio, .int .i64 yhel, .int .i64 ydead] 70)).cell? ⟨nb, 1, none⟩ = some (.int .u32 pa) := blk_cell (i := 1) bb2 rfl
              have x2 : (wr.alloc (.cells #[.int .i64 ykind, .int .u32 ypa, .int .i64 ypl, .int .u32 yad, .int .u32 yarea, .int .i64 ycost, .int .i64 yprio, .int .i64 yhel, .int .i64 ydead] 70)).cell? ⟨nb, 2, none⟩ = some (.int .i64 pl) := blk_cell (i := 2) bb2 rfl
              clear bb bb2
              obtain ⟨⟨d0, d1, d2, d3⟩, d4, d5, d6, d7, d8⟩ := hy
              simp only at d0 d1 d2 d3 d4 d5 d6 d7 d8
              simp only [If9.pfx] at OJ YJ NJ
              generalize overB ⟨pa, pl⟩ ⟨ypa, ypl⟩ = ov at *
              cases ov with
              | true =>
                have Y := Lib.hid (YJ.out rfl)
                clear YJ NJ
                go_wp2_with fail
                refine (OJ.out _).mono ?_
                rintro e w1 ⟨rfl, G1⟩
                have G2 := Lib.hid ((GWI.out.alloc _).trans G1)
                clear G1 OJ x1 x2 d0 d1 d2 d3 d4 d5 d6 d7 d8
                go_wp2_with fail
                go_returns
                exact ⟨by rw [Z.out, if_pos Y.out]; rfl, G2.out⟩
              | false =>
                have N := Lib.hid (NJ.out rfl)
                clear YJ NJ
                go_wp2_with fail
                refine (OJ.out _).mono ?_
                rintro e w1 ⟨rfl, G1⟩
                have G2 := Lib.hid ((GI.out.alloc _).trans G1)
                clear G1 OJ x1 x2 d0 d1 d2 d3 d4 d5 d6 d7 d8
                go_wp2_with fail
                go_roundw
                case rel => exact ⟨j + 1, by go_num, CJ.out, G2, N⟩
                case measure => simp [intOf]; have := CJ.out; omega
            · have N := Lib.hid (NX.out (fun m hm => NI.out m (by omega)))
              have GWI := Lib.hid ((GG.out.trans GA.out).trans GI.out)
              clear NI NX
              go_wp2_with fail
              go_roundw
              case rel => exact ⟨k + 1, by go_num, KC.out, GWI, N⟩
              case measure => simp [intOf]; have := KC.out; omega
        · have V : Hid (ovB l = false) := Lib.hid (ovB_false (fun i hi m hm => NO.out i (by omega) m hm))
          clear NO
          go_wp2_with fail
          go_ret
          exact ⟨by rw [Z.out, V.out]; rfl, GG.out⟩

end Go.Proofs.YtombnejipaoinaaGreat
