import Derived.Test.YtddageahmgaigaaGreatIfs
import Derived.Test.YtddageahmgaigaaGreatSel
import Derived.Test.YtddageahmgaigaaGreatLcl
import Derived.Deep.DeepCutAuto
namespace Go.Proofs.YtddageahmgaigaaGreat
open Go.RowKit

def stubL (x : Ifc) : Lnk := ⟨3, x.pa, x.pl, x.cost⟩
def pointL (x : Ifc) (n : Int) : Lnk := ⟨1, n, x.ad, x.cost⟩
def LnksOwn (base : Nat) (w : World) (v : Value) (l : List Lnk) : Prop := w.ownsRow base 82 4 v l.length (l.map lnkE).flatten
theorem lnkE_len4 (l : List Lnk) : ∀ c ∈ l.map lnkE, c.length = 4 := by
  intro c hc
  obtain ⟨x, _, rfl⟩ := List.mem_map.1 hc
  rfl
theorem LnksOwn.at {base : Nat} {w : World} {v : Value} {l : List Lnk} (h : LnksOwn base w v l) : LnksAt w v l := SlV.of_own (lnkE_len4 l) (by simpa [LnksOwn] using h)
theorem LnksOwn.below {base : Nat} {w w' : World} {v : Value} {l : List Lnk} (h : LnksOwn base w v l) (hb : Below w.heap.size w w') : LnksOwn base w' v l :=
  World.ownsRow.kept (row := none) h (grown_of_below hb none) (by cases v.ownBlock <;> simp)

def LksPost (w : World) (L : List Lnk) (e : Ending) (w' : World) : Prop := ∃ v, e = .returned v ∧ LnksAt w' v L ∧ Fr w.heap.size v ∧ Below w.heap.size w w'

structure LkR (W w4 : World) (x : Ifc) (fs : List Int) (k : Nat) (v : Value) (wr : World) : Prop where
  hk : k ≤ fs.length
  own : LnksOwn W.heap.size wr v (stubL x :: (fs.take k).map (pointL x))
  bel : Below W.heap.size W wr
  kep : w4.grownBy wr (some W.heap.size)
  blk : v.ownBlock = some W.heap.size ∨ ∀ j, v.ownBlock = some j → w4.heap.size ≤ j
theorem LkR.push {W w4 : World} {x : Ifc} {fs : List Int} {k : Nat} {v v' : Value} {wr w5 w6 : World} (R : LkR W w4 x fs k v wr) (c : k < fs.length) (hb : Below wr.heap.size wr w5)
    (own' : w6.ownsRow W.heap.size 82 4 v' ((stubL x :: (fs.take k).map (pointL x)).length + 1) (((stubL x :: (fs.take k).map (pointL x)).map lnkE).flatten ++ lnkE (pointL x fs[k]))) (hg4 : w5.grownBy w6 v.ownBlock)
    (d : v'.ownBlock = v.ownBlock ∨ v'.ownBlock = some w5.heap.size) : LkR W w4 x fs (k + 1) v' w6 := by
  have R3 := R.own.below hb
  have sz : w4.heap.size ≤ w5.heap.size := Nat.le_trans R.kep.size hb.size
  refine ⟨c, ?_, (R.bel.trans (hb.mono R.bel.size)).grown hg4 (Nat.le_trans R.bel.size hb.size) (fun j hj => (World.ownsRow.lt R3 j hj).1), ?_, ?_⟩
  · have : stubL x :: (fs.take (k + 1)).map (pointL x) = (stubL x :: (fs.take k).map (pointL x)) ++ [pointL x fs[k]] := by
      rw [List.take_succ_eq_append_getElem c, List.map_append]; rfl
    rw [this]
    unfold LnksOwn
    rw [List.length_append, List.map_append, List.flatten_append]
    simpa using own'
  · refine ⟨hg4.os.trans (hb.os.trans R.kep.os), hg4.tape.trans (hb.tape.trans R.kep.tape), hg4.output.trans (hb.output.trans R.kep.output), Nat.le_trans sz hg4.size, fun j hj hn => ?_⟩
    refine (hg4.block j (Nat.lt_of_lt_of_le hj sz) ?_).trans ((hb.block j (Nat.lt_of_lt_of_le hj R.kep.size)).trans (R.kep.block j hj hn))
    rcases R.blk with e | e
    · rw [e]; exact hn
    · intro h
      have := e j h.symm
      omega
  · rcases d with e | e
    · rw [e]; exact R.blk
    · exact .inr fun j hj => by rw [e] at hj; cases hj; exact sz

end Go.Proofs.YtddageahmgaigaaGreat

namespace Go.Proofs.YtddageahmgaigaaGreat
open Go.RowKit

set_option maxHeartbeats 8000000 in
set_option maxRecDepth 100000 in
theorem links_point (x : Ifc) (nb : List Nb) (rt : Int) (w : World) (hk : x.kind = 1) (hp0 : 0 ≤ x.pl) (hp1 : x.pl < 4294967296) (hn : NbsAt w (.slice x.na x.nn x.nc) nb) (hl : nb.length ≤ 1048576) : Calls Tryz.prog 39 #[.agg (ifE x).toArray, .int .u32 rt] w (LksPost w (stubL x :: (fulls nb).map (pointL x))) := by
  have HX := Lib.hid (fun W (hb : Below w.heap.size w W) => full_calls x nb W (hn.below hb) (by omega))
  obtain ⟨L, hL⟩ : ∃ L, L = fulls nb := ⟨_, rfl⟩
  have HL : Hid (L.length ≤ 1048576) := Lib.hid (by rw [hL]; exact Nat.le_trans (fulls_len nb) hl)
  rw [← hL]
  have EL := Lib.hid hL
  obtain ⟨ti, hi, hz0, hz1, hz2⟩ := info_parts Tryz.infoLink
  have HI := Lib.hid hi
  have HZ0 := Lib.hid hz0
  have HZ1 := Lib.hid hz1
  have HZ2 := Lib.hid hz2
  clear hi hz0 hz1 hz2 hn hl hL
  obtain ⟨_, pa, pl, ad, area, cost, prio, hel, dead, up, dr, bdr, el, nh, na, nn, nc⟩ := x
  simp only at hk
  subst hk
  simp only at hp0 hp1 HX
  have cv : IntKind.wrap .u32 pl = pl := by simp [IntKind.wrap, IntKind.bits, IntKind.signed]; omega
  obtain ⟨W0, hW0⟩ : ∃ W0, w.alloc (.cells (ifE ⟨1, pa, pl, ad, area, cost, prio, hel, dead, up, dr, bdr, el, nh, na, nn, nc⟩).toArray 69) = W0 := ⟨_, rfl⟩
  have b0 : W0.heap[w.heap.size]? = some (.cells #[.int .i64 1, .int .u32 pa, .int .i64 pl, .int .u32 ad, .int .u32 area, .int .i64 cost, .int .i64 prio, .int .i64 hel, .int .i64 dead, .bool up, .int .u32 dr, .int .u32 bdr, .int .i64 el, .int .i64 nh, .slice na nn nc] 69 (0, 0)) := by rw [← hW0]; exact alloc_new w _
  have B0 : Hid (Below w.heap.size w W0) := Lib.hid (by rw [← hW0]; exact (Below.refl _ _).alloc (Nat.le_refl _) _)
  have HW0 := Lib.hid hW0
  clear hW0
  obtain ⟨⟨⟨y0, y1, y2, y3, y4⟩, ⟨y5, y6, y7, y8, y9⟩, ⟨y10, y11, y12, y13, y14⟩⟩, -⟩ := blk15 b0
  have H0 := Lib.hid b0
  clear b0
  go_enter Tryz.func39, Tryz.ntmps39
  go_upto_region 1 with fail
  rw [HW0.out]
  go_upto_region 2 with fail
  generalize hW1 : W0.alloc _ = W1
  have b1 : W1.heap[W0.heap.size]? = some (.cells #[.int .i64 1, .int .u32 pa, .int .i64 pl, .int .u32 ad, .int .u32 area, .int .i64 cost, .int .i64 prio, .int .i64 hel, .int .i64 dead] 66 (0, 0)) := by rw [← hW1]; exact alloc_new _ _
  have B1 : Hid (Below w.heap.size w W1) := Lib.hid (by rw [← hW1]; exact B0.out.alloc B0.out.size _)
  have H1 : Hid (W1.heap[w.heap.size]? = some (.cells #[.int .i64 1, .int .u32 pa, .int .i64 pl, .int .u32 ad, .int .u32 area, .int .i64 cost, .int .i64 prio, .int .i64 hel, .int .i64 dead, .bool up, .int .u32 dr, .int .u32 bdr, .int .i64 el, .int .i64 nh, .slice na nn nc] 69 (0, 0))) := Lib.hid (by rw [← hW1]; exact (alloc_get _ _ _ (blk_lt H0.out)).trans H0.out)
  have c0 : W1.cell? ⟨W0.heap.size, 0, none⟩ = some (.int .i64 1) := blk_cell b1 rfl
  have c1 : W1.cell? ⟨W0.heap.size, 1, none⟩ = some (.int .u32 pa) := blk_cell b1 rfl
  have c2 : W1.cell? ⟨W0.heap.size, 2, none⟩ = some (.int .i64 pl) := blk_cell b1 rfl
  have c3 : W1.cell? ⟨W0.heap.size, 3, none⟩ = some (.int .u32 ad) := blk_cell b1 rfl
  have c5 : W1.cell? ⟨W0.heap.size, 5, none⟩ = some (.int .i64 cost) := blk_cell b1 rfl
  have G1 := Lib.hid b1
  clear hW1 b1 y0 y1 y2 y3 y4 y5 y6 y7 y8 y9 y10 y11 y12 y13 y14 B0 H0
  go_upto_region 3 with fail
  generalize hW2 : W1.alloc _ = W2
  have b2 : W2.heap[W1.heap.size]? = some (.cells #[.int .i64 3, .int .u32 pa, .int .u32 pl, .int .i64 cost] 82 (0, 0)) := by rw [← hW2]; exact alloc_new _ _
  have B2 : Hid (Below w.heap.size w W2) := Lib.hid (by rw [← hW2]; exact B1.out.alloc B1.out.size _)
  have H2 : Hid (W2.heap[w.heap.size]? = some (.cells #[.int .i64 1, .int .u32 pa, .int .i64 pl, .int .u32 ad, .int .u32 area, .int .i64 cost, .int .i64 prio, .int .i64 hel, .int .i64 dead, .bool up, .int .u32 dr, .int .u32 bdr, .int .i64 el, .int .i64 nh, .slice na nn nc] 69 (0, 0))) := Lib.hid (by rw [← hW2]; exact (alloc_get _ _ _ (blk_lt H1.out)).trans H1.out)
  have G2 : Hid (W2.heap[W0.heap.size]? = some (.cells #[.int .i64 1, .int .u32 pa, .int .i64 pl, .int .u32 ad, .int .u32 area, .int .i64 cost, .int .i64 prio, .int .i64 hel, .int .i64 dead] 66 (0, 0))) := Lib.hid (by rw [← hW2]; exact (alloc_get _ _ _ (blk_lt G1.out)).trans G1.out)
  have e0 : W2.cell? ⟨W1.heap.size, 0, none⟩ = some (.int .i64 3) := blk_cell b2 rfl
  have e1 : W2.cell? ⟨W1.heap.size, 1, none⟩ = some (.int .u32 pa) := blk_cell b2 rfl
  have e2 : W2.cell? ⟨W1.heap.size, 2, none⟩ = some (.int .u32 pl) := blk_cell b2 rfl
  have e3 : W2.cell? ⟨W1.heap.size, 3, none⟩ = some (.int .i64 cost) := blk_cell b2 rfl
  have k0 : W2.cell? ⟨W0.heap.size, 0, none⟩ = some (.int .i64 1) := blk_cell G2.out rfl
  clear hW2 b2 c0 c1 c2 c3 c5 H1 G1 B1
  obtain ⟨x, hx⟩ : ∃ x, x = (⟨1, pa, pl, ad, area, cost, prio, hel, dead, up, dr, bdr, el, nh, na, nn, nc⟩ : Ifc) := ⟨_, rfl⟩
  have EX := Lib.hid hx
  obtain ⟨W3, hW3⟩ : ∃ W3, W2.alloc (.cells #[.int .i64 3, .int .u32 pa, .int .u32 pl, .int .i64 cost] 82) = W3 := ⟨_, rfl⟩
  have B3 : Hid (Below W2.heap.size W2 W3) := Lib.hid (by rw [← hW3]; exact (Below.refl _ _).alloc (Nat.le_refl _) _)
  have R3 : Hid (LnksOwn W2.heap.size W3 (.slice (some ⟨W2.heap.size, 0, none⟩) 1 1) [stubL x]) := Lib.hid (by rw [← hW3, EX.out]; exact World.ownsRow_lit W2 _ 1 (Nat.le_refl _) (by decide) rfl)
  have H3 := Lib.hid ((B3.out.block _ (blk_lt H2.out)).trans H2.out)
  have HW3 := Lib.hid hW3
  have FC := Lib.hid (HX.out W3 (B2.out.trans (B3.out.mono B2.out.size)))
  rw [← hx]
  clear hW3 HX hx
  simp only [ifE] at FC
  go_upto_region 8 with fail
  rw [HW3.out]
  obtain ⟨⟨⟨y0, y1, y2, y3, y4⟩, ⟨y5, y6, y7, y8, y9⟩, ⟨y10, y11, y12, y13, y14⟩⟩, -⟩ := blk15 H3.out
  go_wp2_with fail
  refine FC.out.mono ?_
  rintro e w4 ⟨v4, rfl, OW4, B4⟩
  rw [← EL.out] at OW4
  obtain ⟨a4, n4, hv4, hc4⟩ := OW4.at.get
  subst hv4
  have HC4 := Lib.hid hc4
  have BW4 : Hid (Below w.heap.size w w4) := Lib.hid (B2.out.trans ((B3.out.trans (B4.mono B3.out.size)).mono B2.out.size))
  have ST : Hid (LkR W2 w4 x L 0 (.slice (some ⟨W2.heap.size, 0, none⟩) 1 1) w4) := Lib.hid ⟨Nat.zero_le _, R3.out.below B4, B3.out.trans (B4.mono B3.out.size), ⟨rfl, rfl, rfl, Nat.le_refl _, fun _ _ _ => rfl⟩, .inl rfl⟩
  have SZ3 : W3.heap.size = W2.heap.size + 1 := by rw [← HW3.out]; simp
  have NB : Hid (∀ b off n c, (.slice a4 L.length n4 : Value) = .slice (some ⟨b, off, none⟩) n c → some W2.heap.size ≠ some b) := Lib.hid (fun b off n c e h => by have h1 := Fr.own OW4 b off n c e; cases h; omega)
  clear SZ3
  have OA4 := Lib.hid OW4.at
  clear OW4 B4 FC R3 hc4 y0 y1 y2 y3 y4 y5 y6 y7 y8 y9 y10 y11 y12 y13 y14 H3
  go_wp2_with fail
  go_loopw [37, 7, 9] (fun ix v nx wr => ∃ k : Nat, ix = .int .i64 k ∧ Hid (LkR W2 w4 x L k v wr)) (fun ix _ _ _ => L.length - (intOf ix).toNat)
  case atStart => exact ⟨0, rfl, ST⟩
  case round =>
    clear ST
    obtain ⟨k, rfl, R⟩ := hrel
    have hk := R.out.hk
    by_cases c : k < L.length
    · obtain ⟨b1, o1, rfl, hb1, hcc1⟩ := HC4.out (by omega)
      obtain ⟨WO, eWO⟩ : ∃ x, x = wr := ⟨_, rfl⟩
      subst eWO
      have SZ : Hid (W2.heap.size ≤ WO.heap.size) := Lib.hid R.out.bel.size
      have d0 : WO.cell? ⟨b1, o1 + k, none⟩ = some (.int .u32 L[k]) := (World.cell?_of_block (R.out.kep.block b1 hb1 (fun h => NB.out b1 o1 _ _ rfl h.symm))).trans (hcc1 k c)
      have KI : WO.heap[W0.heap.size]? = some (.cells #[.int .i64 1, .int .u32 pa, .int .i64 pl, .int .u32 ad, .int .u32 area, .int .i64 cost, .int .i64 prio, .int .i64 hel, .int .i64 dead] 66 (0, 0)) := (R.out.bel.block _ (blk_lt G2.out)).trans G2.out
      have k3 : WO.cell? ⟨W0.heap.size, 3, none⟩ = some (.int .u32 ad) := blk_cell KI rfl
      have k5 : WO.cell? ⟨W0.heap.size, 5, none⟩ = some (.int .i64 cost) := blk_cell KI rfl
      have PU := Lib.hid (fun v' w5 w6 hb own' hg d => R.out.push c (v' := v') (w5 := w5) (w6 := w6) hb own' hg d)
      have OW := Lib.hid R.out.own
      have KL : Hid ((stubL x :: (L.take k).map (pointL x)).length ≤ 1048577) := Lib.hid (by have := HL.out; rw [List.length_cons, List.length_map, List.length_take]; omega)
      have KC := Lib.hid c
      have hL6 : L.length ≤ 1048576 := HL.out
      have i0 : (0 : Int) ≤ (k : Int) := by omega
      have i1 : (k : Int) < (L.length : Int) := by omega
      have s3 : ((k : Int)).toNat = k := by omega
      clear hcc1 R KI
      generalize L[k] = n at *
      clear c
      obtain ⟨W5, hW5⟩ : ∃ W5, WO.alloc (.cells #[.int .i64 1, .int .u32 n, .int .u32 ad, .int .i64 cost] 82) = W5 := ⟨_, rfl⟩
      have B5 : Below WO.heap.size WO W5 := by rw [← hW5]; exact (Below.refl _ _).alloc (Nat.le_refl _) _
      have BK : Hid (W5.heap[WO.heap.size]? = some (.cells #[.int .i64 1, .int .u32 n, .int .u32 ad, .int .i64 cost] 82 (0, 0))) := Lib.hid (by rw [← hW5]; exact alloc_new _ _)
      have HW5 := Lib.hid hW5
      have OW5 := Lib.hid (OW.out.below B5)
      have PU5 := Lib.hid (fun v' w6 own' hg d => PU.out v' W5 w6 B5 own' hg d)
      have BS : Hid (W2.heap.size ≤ W5.heap.size) := Lib.hid (Nat.le_trans SZ.out B5.size)
      have K1 : Hid ((stubL x :: (L.take k).map (pointL x)).length + 1 ≤ maxLen) := Lib.hid (by have := KL.out; unfold maxLen; omega)
      have K2 : Hid (((stubL x :: (L.take k).map (pointL x)).length + 1) * 24 ≤ 140737488355328) := Lib.hid (by have := KL.out; omega)
      have ONE : Hid (∀ u ∈ ([.int .i64 1, .int .u32 n, .int .u32 ad, .int .i64 cost] : List Value), u.oneCell' = true) := Lib.hid (by intro u hu; simp at hu; rcases hu with rfl | rfl | rfl | rfl <;> rfl)
      have EP : (lnkE (pointL x n)) = [.int .i64 1, .int .u32 n, .int .u32 ad, .int .i64 cost] := by rw [EX.out]; rfl
      rw [EP] at PU5
      clear hW5 B5 PU OW EP
      unfold LnksOwn at OW5
      generalize stubL x :: (L.take k).map (pointL x) = row at OW5 PU5 K1 K2
      go_wp2_with (at_builtin; rw [HW5.out]; refine wpList_append_one rfl (.tmp 41) (.tmp 48) 38 rfl W2.heap.size 82 ti (.agg #[.int .i64 0, .int .u32 0, .int .u32 0, .int .i64 0]) 4 24 Tryz.underlying38 ?g1 ?g2 ?g3 ?g4 ?g5 ?g6 u7 row.length _ ?g7 OW5.out WO.heap.size [.int .i64 1, .int .u32 n, .int .u32 ad, .int .i64 cost] 82 ?g8 BK.out ?g9 ONE.out K1.out K2.out BS.out ?_; (case g1 => exact HI.out); (case g2 => exact HZ0.out); (case g3 => exact HZ1.out); (case g4 => exact HZ2.out); (case g5 => exact rfl); (case g6 => decide); (case g7 => exact rfl); (case g8 => exact rfl); (case g9 => exact rfl); intro v' w9 own' hg4 d; have NX := Lib.hid (PU5.out v' w9 own' hg4 d); clear own' hg4 d)
      go_roundw
      case rel => exact ⟨k + 1, by go_num, NX⟩
      case measure => simp [intOf]; have := KC.out; omega
    · obtain rfl : k = L.length := by omega
      have E : Hid (LksPost w (stubL x :: L.map (pointL x)) (.returned u7) wr) := Lib.hid (by
        have o := R.out.own
        rw [List.take_length] at o
        exact ⟨_, rfl, o.at, (Fr.own o).mono B2.out.size, B2.out.trans (R.out.bel.mono B2.out.size)⟩)
      rw [EX.out] at E
      clear R
      go_wp2_with fail
      go_ret
      exact E.out

end Go.Proofs.YtddageahmgaigaaGreat
