import Derived.Test.YtddageahmgaigaaGreatSla
import Derived.Test.YtddageahmgaigaaGreatMem
import Derived.Test.YtddageahmgaigaaGreatLeaf
import Derived.Deep.DeepCutAuto
import Derived.IntWalk
namespace Go.Proofs.YtddageahmgaigaaGreat
open Go.RowKit

theorem grown_of_below {w w' : World} (hb : Below w.heap.size w w') (row : Option Nat) : w.grownBy w' row := ⟨hb.os, hb.tape, hb.output, hb.size, fun k hk _ => hb.block k hk⟩

structure Sl where
  a : Option Addr
  n : Nat
  c : Nat
def Sl.v (s : Sl) : Value := .slice s.a s.n s.c

structure Nb where
  r : Int
  a : Int
  prio : Int
  dr : Int
  bdr : Int
  st : Int
  til : Int
  mas : Bool
  seq : Int
  v9 : Sl
  v10 : Sl
  more : Bool
  v12 : Sl
  v13 : Sl
  res : Int

def nbE (n : Nb) : List Value := [.int .u32 n.r, .int .u32 n.a, .int .i64 n.prio, .int .u32 n.dr, .int .u32 n.bdr, .int .i64 n.st, .int .i64 n.til, .bool n.mas, .int .i64 n.seq, .slice n.v9.a n.v9.n n.v9.c, .slice n.v10.a n.v10.n n.v10.c, .bool n.more, .slice n.v12.a n.v12.n n.v12.c, .slice n.v13.a n.v13.n n.v13.c, .int .i64 n.res]

structure Ifc where
  kind : Int
  pa : Int
  pl : Int
  ad : Int
  area : Int
  cost : Int
  prio : Int
  hel : Int
  dead : Int
  up : Bool
  dr : Int
  bdr : Int
  el : Int
  nh : Int
  na : Option Addr
  nn : Nat
  nc : Nat
deriving Inhabited

def ifE (x : Ifc) : List Value := [.int .i64 x.kind, .int .u32 x.pa, .int .i64 x.pl, .int .u32 x.ad, .int .u32 x.area, .int .i64 x.cost, .int .i64 x.prio, .int .i64 x.hel, .int .i64 x.dead, .bool x.up, .int .u32 x.dr, .int .u32 x.bdr, .int .i64 x.el, .int .i64 x.nh, .slice x.na x.nn x.nc]

def HdsAt (w : World) (v : Value) : Prop := ∃ css : List (List Value), SlV 7 w v css ∧ (∀ c ∈ css, c.length = 7) ∧ ∀ c ∈ css, ∀ u ∈ c, u.oneCell' = true
theorem HdsAt.below {w w' : World} {v : Value} (h : HdsAt w v) (hb : Below w.heap.size w w') : HdsAt w' v := by
  obtain ⟨css, h1, h2⟩ := h
  exact ⟨css, SlV.below h1 hb, h2⟩

structure NbIn (w : World) (n : Nb) : Prop where
  h9 : HdsAt w n.v9.v
  h10 : HdsAt w n.v10.v
  h12 : HdsAt w n.v12.v
  h13 : HdsAt w n.v13.v
theorem NbIn.below {w w' : World} {n : Nb} (h : NbIn w n) (hb : Below w.heap.size w w') : NbIn w' n := ⟨h.h9.below hb, h.h10.below hb, h.h12.below hb, h.h13.below hb⟩

structure NbsAt (w : World) (v : Value) (l : List Nb) : Prop where
  sl : SlV 15 w v (l.map nbE)
  hd : ∀ n ∈ l, NbIn w n
theorem NbsAt.below {w w' : World} {v : Value} {l : List Nb} (h : NbsAt w v l) (hb : Below w.heap.size w w') : NbsAt w' v l := ⟨h.sl.below hb, fun n hn => (h.hd n hn).below hb⟩

def Cells15 (w : World) (b o : Nat) (v0 v1 v2 v3 v4 v5 v6 v7 v8 v9 v10 v11 v12 v13 v14 : Value) : Prop :=
  (w.cell? ⟨b, o, none⟩ = some v0 ∧ w.cell? ⟨b, o + 1, none⟩ = some v1 ∧ w.cell? ⟨b, o + 2, none⟩ = some v2 ∧ w.cell? ⟨b, o + 3, none⟩ = some v3 ∧ w.cell? ⟨b, o + 4, none⟩ = some v4) ∧
  (w.cell? ⟨b, o + 5, none⟩ = some v5 ∧ w.cell? ⟨b, o + 6, none⟩ = some v6 ∧ w.cell? ⟨b, o + 7, none⟩ = some v7 ∧ w.cell? ⟨b, o + 8, none⟩ = some v8 ∧ w.cell? ⟨b, o + 9, none⟩ = some v9) ∧
  (w.cell? ⟨b, o + 10, none⟩ = some v10 ∧ w.cell? ⟨b, o + 11, none⟩ = some v11 ∧ w.cell? ⟨b, o + 12, none⟩ = some v12 ∧ w.cell? ⟨b, o + 13, none⟩ = some v13 ∧ w.cell? ⟨b, o + 14, none⟩ = some v14)

theorem Cells15.below {w w' : World} {b o : Nat} {v0 v1 v2 v3 v4 v5 v6 v7 v8 v9 v10 v11 v12 v13 v14 : Value} (h : Cells15 w b o v0 v1 v2 v3 v4 v5 v6 v7 v8 v9 v10 v11 v12 v13 v14) {B : Nat} (hb : Below B w w') (hlt : b < B) : Cells15 w' b o v0 v1 v2 v3 v4 v5 v6 v7 v8 v9 v10 v11 v12 v13 v14 := by
  have e := fun k => World.cell?_of_block (w := w) (w' := w') (a := ⟨b, k, none⟩) (hb.block b hlt)
  obtain ⟨⟨h0, h1, h2, h3, h4⟩, ⟨h5, h6, h7, h8, h9⟩, ⟨h10, h11, h12, h13, h14⟩⟩ := h
  exact ⟨⟨(e _).trans h0, (e _).trans h1, (e _).trans h2, (e _).trans h3, (e _).trans h4⟩, ⟨(e _).trans h5, (e _).trans h6, (e _).trans h7, (e _).trans h8, (e _).trans h9⟩, ⟨(e _).trans h10, (e _).trans h11, (e _).trans h12, (e _).trans h13, (e _).trans h14⟩⟩

def NbC (w : World) (b o : Nat) (n : Nb) : Prop := Cells15 w b o (.int .u32 n.r) (.int .u32 n.a) (.int .i64 n.prio) (.int .u32 n.dr) (.int .u32 n.bdr) (.int .i64 n.st) (.int .i64 n.til) (.bool n.mas) (.int .i64 n.seq) (.slice n.v9.a n.v9.n n.v9.c) (.slice n.v10.a n.v10.n n.v10.c) (.bool n.more) (.slice n.v12.a n.v12.n n.v12.c) (.slice n.v13.a n.v13.n n.v13.c) (.int .i64 n.res)
def IfC (w : World) (b o : Nat) (x : Ifc) : Prop := Cells15 w b o (.int .i64 x.kind) (.int .u32 x.pa) (.int .i64 x.pl) (.int .u32 x.ad) (.int .u32 x.area) (.int .i64 x.cost) (.int .i64 x.prio) (.int .i64 x.hel) (.int .i64 x.dead) (.bool x.up) (.int .u32 x.dr) (.int .u32 x.bdr) (.int .i64 x.el) (.int .i64 x.nh) (.slice x.na x.nn x.nc)

theorem NbsAt.get {w : World} {v : Value} {l : List Nb} (h : NbsAt w v l) : ∃ a cap, v = .slice a l.length cap ∧ l.length ≤ 9223372036854775807 ∧ (0 < l.length → ∃ b off, a = some ⟨b, off, none⟩ ∧ b < w.heap.size ∧ ∀ i (h : i < l.length), NbC w b (off + i * 15) l[i]) := by
  have hl := SlV.len h.sl
  obtain ⟨a, cap, h0, h1, h2, hn, h3⟩ := h.sl
  simp only [List.length_map] at h0 h1 h3 hl
  refine ⟨a, cap, h0, hl, fun hp => ?_⟩
  obtain ⟨b, off, e, h4, h5⟩ := h3 hp
  refine ⟨b, off, e, h4, fun i hi => ?_⟩
  have := h5 i (by simpa using hi)
  simp only [List.getElem_map, nbE] at this
  exact ⟨⟨this 0 _ rfl, this 1 _ rfl, this 2 _ rfl, this 3 _ rfl, this 4 _ rfl⟩, ⟨this 5 _ rfl, this 6 _ rfl, this 7 _ rfl, this 8 _ rfl, this 9 _ rfl⟩, ⟨this 10 _ rfl, this 11 _ rfl, this 12 _ rfl, this 13 _ rfl, this 14 _ rfl⟩⟩

structure IfD where
  x : Ifc
  nb : List Nb

structure IfIn (w : World) (d : IfD) : Prop where
  nb : NbsAt w (.slice d.x.na d.x.nn d.x.nc) d.nb
theorem IfIn.below {w w' : World} {d : IfD} (h : IfIn w d) (hb : Below w.heap.size w w') : IfIn w' d := ⟨h.nb.below hb⟩

structure IfsAt (w : World) (v : Value) (l : List IfD) : Prop where
  sl : SlV 15 w v (l.map fun d => ifE d.x)
  inn : ∀ d ∈ l, IfIn w d
theorem IfsAt.below {w w' : World} {v : Value} {l : List IfD} (h : IfsAt w v l) (hb : Below w.heap.size w w') : IfsAt w' v l := ⟨h.sl.below hb, fun n hn => (h.inn n hn).below hb⟩
theorem IfsAt.get {w : World} {v : Value} {l : List IfD} (h : IfsAt w v l) : ∃ a cap, v = .slice a l.length cap ∧ l.length ≤ 9223372036854775807 ∧ (0 < l.length → ∃ b off, a = some ⟨b, off, none⟩ ∧ b < w.heap.size ∧ ∀ i (h : i < l.length), IfC w b (off + i * 15) l[i].x) := by
  have hl := SlV.len h.sl
  obtain ⟨a, cap, h0, h1, h2, hn, h3⟩ := h.sl
  simp only [List.length_map] at h0 h1 h3 hl
  refine ⟨a, cap, h0, hl, fun hp => ?_⟩
  obtain ⟨b, off, e, h4, h5⟩ := h3 hp
  refine ⟨b, off, e, h4, fun i hi => ?_⟩
  have := h5 i (by simpa using hi)
  simp only [List.getElem_map, ifE] at this
  exact ⟨⟨this 0 _ rfl, this 1 _ rfl, this 2 _ rfl, this 3 _ rfl, this 4 _ rfl⟩, ⟨this 5 _ rfl, this 6 _ rfl, this 7 _ rfl, this 8 _ rfl, this 9 _ rfl⟩, ⟨this 10 _ rfl, this 11 _ rfl, this 12 _ rfl, this 13 _ rfl, this 14 _ rfl⟩⟩

def fulls (l : List Nb) : List Int := (l.filter fun n => decide (n.st = 6)).map Nb.r
theorem fulls_len (l : List Nb) : (fulls l).length ≤ l.length := by unfold fulls; rw [List.length_map]; exact List.length_filter_le _ _

def WordsOwn (base : Nat) (w : World) (v : Value) (l : List Int) : Prop := w.ownsRow base 22 1 v l.length (l.map u32E).flatten
theorem u32E_len (l : List Int) : ∀ c ∈ l.map u32E, c.length = 1 := by
  intro c hc
  obtain ⟨x, _, rfl⟩ := List.mem_map.1 hc
  rfl
theorem WordsOwn.at {base : Nat} {w : World} {v : Value} {l : List Int} (h : WordsOwn base w v l) : WordsAt w v l := SlV.of_own (u32E_len l) (by simpa [WordsOwn] using h)
theorem WordsOwn.below {base : Nat} {w w' : World} {v : Value} {l : List Int} (h : WordsOwn base w v l) (hb : Below w.heap.size w w') : WordsOwn base w' v l :=
  World.ownsRow.kept (row := none) h (grown_of_below hb none) (by cases v.ownBlock <;> simp)

def FullPost (w : World) (nb : List Nb) (e : Ending) (w' : World) : Prop := ∃ v, e = .returned v ∧ WordsOwn w.heap.size w' v (fulls nb) ∧ Below w.heap.size w w'

structure FuR (base : Nat) (w : World) (nb : List Nb) (k : Nat) (v : Value) (wr : World) : Prop where
  hk : k ≤ nb.length
  own : WordsOwn base wr v (fulls (nb.take k))
  bel : Below base w wr
  hb : base ≤ wr.heap.size
theorem FuR.skip {base : Nat} {w : World} {nb : List Nb} {k : Nat} {v : Value} {wr w' : World} (R : FuR base w nb k v wr) (c : k < nb.length) (h : nb[k].st ≠ 6) (hb : Below wr.heap.size wr w') : FuR base w nb (k + 1) v w' := by
  refine ⟨c, ?_, R.bel.trans (hb.mono R.hb), Nat.le_trans R.hb hb.size⟩
  have : fulls (nb.take (k + 1)) = fulls (nb.take k) := by
    unfold fulls
    rw [List.take_succ_eq_append_getElem c, List.filter_append, List.filter_cons_of_neg (by simp [h]), List.filter_nil, List.append_nil]
  rw [this]; exact R.own.below hb
theorem FuR.push {base : Nat} {w : World} {nb : List Nb} {k : Nat} {v v' : Value} {wr w3 w4 : World} (R : FuR base w nb k v wr) (c : k < nb.length) (h : nb[k].st = 6) (hb : Below wr.heap.size wr w3)
    (own' : w4.ownsRow base 22 1 v' ((fulls (nb.take k)).length + 1) (((fulls (nb.take k)).map u32E).flatten ++ [.int .u32 nb[k].r])) (hg4 : w3.grownBy w4 v.ownBlock) : FuR base w nb (k + 1) v' w4 := by
  have R3 := R.own.below hb
  refine ⟨c, ?_, (R.bel.trans (hb.mono R.hb)).grown hg4 (Nat.le_trans R.hb hb.size) (fun j hj => (World.ownsRow.lt R3 j hj).1), Nat.le_trans (Nat.le_trans R.hb hb.size) hg4.size⟩
  have : fulls (nb.take (k + 1)) = fulls (nb.take k) ++ [nb[k].r] := by
    unfold fulls
    rw [List.take_succ_eq_append_getElem c, List.filter_append, List.filter_cons_of_pos (by simp [h]), List.filter_nil, List.map_append]; rfl
  rw [this]
  unfold WordsOwn
  rw [List.length_append, List.map_append, List.flatten_append]
  simpa [u32E] using own'

set_option maxHeartbeats 8000000 in
set_option maxRecDepth 100000 in
theorem full_calls (x : Ifc) (nb : List Nb) (w : World) (hn : NbsAt w (.slice x.na x.nn x.nc) nb) (hl : nb.length ≤ 1048576) : Calls Tryz.prog 65 #[.agg (ifE x).toArray] w (FullPost w nb) := by
  obtain ⟨a1, c1, e1, hlen, hc1⟩ := hn.get
  obtain ⟨kind, pa, pl, ad, area, cost, prio, hel, dead, up, dr, bdr, el, nh, na, nn, nc⟩ := x
  simp only at e1
  cases e1
  have HC1 := Lib.hid hc1
  clear hn hc1
  have mixed : Tryz.prog.follows .mixedOrders = true := by kernel_rfl
  obtain ⟨ti, HI0, HZ0, HZ1, HZ2⟩ : ∃ i, Hid (Tryz.prog.info? 22 = some i) ∧ Hid (i.zero = some (.int .u32 0)) ∧ Hid (i.size = 1) ∧ Hid (i.bytes = 4) := by
    have h := Tryz.infoU32
    cases e : Tryz.prog.info? 22 with
    | none => rw [e] at h; simp at h
    | some i => rw [e] at h; simp only [Option.map_some, Option.some.injEq, Prod.mk.injEq] at h; exact ⟨i, Lib.hid rfl, Lib.hid h.1, Lib.hid h.2.1, Lib.hid h.2.2⟩
  obtain ⟨W0, hW0⟩ : ∃ W0, w.alloc (.cells (ifE ⟨kind, pa, pl, ad, area, cost, prio, hel, dead, up, dr, bdr, el, nh, a1, nb.length, c1⟩).toArray 69) = W0 := ⟨_, rfl⟩
  have b0 : W0.heap[w.heap.size]? = some (.cells (ifE ⟨kind, pa, pl, ad, area, cost, prio, hel, dead, up, dr, bdr, el, nh, a1, nb.length, c1⟩).toArray 69 (0, 0)) := by rw [← hW0]; exact alloc_new w _
  have B0 : Below w.heap.size w W0 := by rw [← hW0]; exact (Below.refl _ _).alloc (Nat.le_refl _) _
  have y14 : W0.cell? ⟨w.heap.size, 14, none⟩ = some (.slice a1 nb.length c1) := blk_cell b0 rfl
  have ST : Hid (FuR w.heap.size w nb 0 (.slice none 0 0) W0) := Lib.hid ⟨Nat.zero_le _, World.ownsRow_nil _ _ _ _, B0, B0.size⟩
  have HW0 := Lib.hid hW0
  have HB0 := Lib.hid B0
  clear hW0 b0 B0

  go_enter Tryz.func65, Tryz.ntmps65
  go_upto_region 1 with fail
  rw [HW0.out]
  go_wp2_with fail
  clear y14
  go_loopw [9, 3] (fun ix v wr => ∃ k : Nat, ix = .int .i64 k ∧ Hid (FuR w.heap.size w nb k v wr)) (fun ix _ _ => nb.length - (intOf ix).toNat)
  case atStart => exact ⟨0, rfl, ST⟩
  case round =>
    clear ST
    obtain ⟨k, rfl, R⟩ := hrel
    have hk := R.out.hk
    by_cases c : k < nb.length
    · obtain ⟨b1, o1, rfl, hb1, hcc1⟩ := HC1.out (by omega)
      obtain ⟨WO, eWO⟩ : ∃ x, x = wr := ⟨_, rfl⟩
      subst eWO
      obtain ⟨⟨d0, d1, d2, d3, d4⟩, ⟨d5, d6, d7, d8, d9⟩, ⟨d10, d11, d12, d13, d14⟩⟩ := (hcc1 k c).below R.out.bel hb1
      have SK := Lib.hid (fun h W' hb => R.out.skip c h (w' := W') hb)
      have PU := Lib.hid (fun h v' w3 w4 hb own' hg => R.out.push c h (v' := v') (w3 := w3) (w4 := w4) hb own' hg)
      have OW := Lib.hid R.out.own
      have HBS := Lib.hid R.out.hb
      have KL : Hid ((fulls (nb.take k)).length ≤ 1048576) := Lib.hid (by have := fulls_len (nb.take k); rw [List.length_take] at this; omega)
      have KC := Lib.hid c
      have i0 : (0 : Int) ≤ (k : Int) := by omega
      have i1 : (k : Int) < (nb.length : Int) := by omega
      have s3 : ((k : Int)).toNat = k := by omega
      clear hcc1 R
      generalize fulls (nb.take k) = L at *
      generalize nb[k] = n at *
      clear c
      obtain ⟨nr, na, nprio, ndr, nbdr, nst, ntil, nmas, nseq, ⟨v9a, v9n, v9c⟩, ⟨vAa, vAn, vAc⟩, nmore, ⟨vCa, vCn, vCc⟩, ⟨vDa, vDn, vDc⟩, nres⟩ := n
      simp only at d0 d1 d2 d3 d4 d5 d6 d7 d8 d9 d10 d11 d12 d13 d14 SK PU
      go_upto_region 5 with fail
      generalize hW1 : WO.alloc _ = W1
      have B1 : Below WO.heap.size WO W1 := by rw [← hW1]; exact (Below.refl _ _).alloc (Nat.le_refl _) _
      have b1 : W1.heap[WO.heap.size]? = some (.cells #[.int .u32 nr, .int .u32 na, .int .i64 nprio, .int .u32 ndr, .int .u32 nbdr, .int .i64 nst, .int .i64 ntil, .bool nmas, .int .i64 nseq, .slice v9a v9n v9c, .slice vAa vAn vAc, .bool nmore, .slice vCa vCn vCc, .slice vDa vDn vDc, .int .i64 nres] 72 (0, 0)) := by rw [← hW1]; exact alloc_new _ _
      have x0 : W1.cell? ⟨WO.heap.size, 0, none⟩ = some (.int .u32 nr) := blk_cell b1 rfl
      have x5 : W1.cell? ⟨WO.heap.size, 5, none⟩ = some (.int .i64 nst) := blk_cell b1 rfl
      have HB1 := Lib.hid B1
      clear hW1 B1 b1 d0 d1 d2 d3 d4 d5 d6 d7 d8 d9 d10 d11 d12 d13 d14
      by_cases q : nst = 6
      · subst q
        obtain ⟨W2, hW2⟩ : ∃ W2, W1.alloc (.cells #[.int .u32 nr] 22) = W2 := ⟨_, rfl⟩
        have B2 : Below WO.heap.size WO W2 := by rw [← hW2]; exact HB1.out.alloc HB1.out.size _
        have BK : Hid (W2.heap[W1.heap.size]? = some (.cells #[.int .u32 nr] 22 (0, 0))) := Lib.hid (by rw [← hW2]; exact alloc_new _ _)
        have HW2 := Lib.hid hW2
        have OW2 := Lib.hid (OW.out.below B2)
        have PU2 := Lib.hid (fun v' w4 own' hg => PU.out rfl v' W2 w4 B2 own' hg)
        have BS : Hid (w.heap.size ≤ W2.heap.size) := Lib.hid (Nat.le_trans HBS.out B2.size)
        have K1 : Hid (L.length + 1 ≤ maxLen) := Lib.hid (by have := KL.out; unfold maxLen; omega)
        have K2 : Hid ((L.length + 1) * 4 ≤ 140737488355328) := Lib.hid (by have := KL.out; omega)
        have ONE : Hid (∀ u ∈ ([.int .u32 nr] : List Value), u.oneCell' = true) := Lib.hid (by intro u hu; simp at hu; subst hu; rfl)
        clear hW2 B2 SK PU OW
        unfold WordsOwn at OW2
        go_wp2_with (at_builtin; rw [HW2.out]; refine wpList_append_one rfl (.tmp 16) (.tmp 19) 39 rfl w.heap.size 22 ti (.int .u32 0) 1 4 Tryz.underlying39 ?g1 ?g2 ?g3 ?g4 ?g5 ?g6 u3 L.length _ ?g7 OW2.out W1.heap.size [.int .u32 nr] 22 ?g8 BK.out ?g9 ONE.out K1.out K2.out BS.out ?_; (case g1 => exact HI0.out); (case g2 => exact HZ0.out); (case g3 => exact HZ1.out); (case g4 => exact HZ2.out); (case g5 => exact rfl); (case g6 => decide); (case g7 => exact rfl); (case g8 => exact rfl); (case g9 => exact rfl); intro v' w9 own' hg4 d; have NX := Lib.hid (PU2.out v' w9 own' hg4); clear own' hg4 d)
        go_roundw
        case rel => exact ⟨k + 1, by go_num, NX⟩
        case measure => simp [intOf]; have := KC.out; omega
      · have q' : (nst == 6) = false := by simpa using q
        have NX := Lib.hid (SK.out q W1 HB1.out)
        clear SK PU OW q
        go_wp2_with fail
        go_roundw
        case rel => exact ⟨k + 1, by go_num, NX⟩
        case measure => simp [intOf]; have := KC.out; omega
    · obtain rfl : k = nb.length := by omega
      have E : Hid (FullPost w nb (.returned u3) wr) := Lib.hid (by
        have o := R.out.own
        rw [List.take_length] at o
        exact ⟨_, rfl, o, R.out.bel⟩)
      clear R
      go_wp2_with fail
      go_ret
      exact E.out

end Go.Proofs.YtddageahmgaigaaGreat
