import Derived.Test.YtddageahmgaigaaGreatRtp
import Derived.Test.YtddageahmgaigaaGreatIfs
import Derived.Test.YtddageahmgaigaaGreatMem
import Derived.Test.YtddageahmgaigaaGreatLhd
import Derived.Test.YtddageahmgaigaaGreatLks
import Derived.Test.YtddageahmgaigaaGreatFle
import Derived.Deep.DeepCutAuto
import Derived.BigQuiet
import Derived.IntWalk
namespace Go.Proofs.YtddageahmgaigaaGreat
open Go.RowKit

def adS (s : Lnk × Bool × List Lnk) (y : Lnk) : Lnk × Bool × List Lnk :=
  if lnkCmp s.1 y = 0 then (bestL s.1 y, s.2.1, s.2.2)
  else if s.2.1 = false ∧ lnkCmp s.1 y < 0 then (s.1, true, s.2.2 ++ [s.1] ++ [y])
  else (s.1, s.2.1, s.2.2 ++ [y])
def adK (x : Lnk) (l : List Lnk) (k : Nat) : Lnk × Bool × List Lnk := (l.take k).foldl adS (x, false, [])
def adF (s : Lnk × Bool × List Lnk) : List Lnk := if s.2.1 = true then s.2.2 else s.2.2 ++ [s.1]

structure AdR (w : World) (s : Lnk × Bool × List Lnk) (v : Value) (wr : World) : Prop where
  box : wr.heap[w.heap.size]? = some (.cells (lnkE s.1).toArray 82 (0, 0))
  own : LnksOwn (w.heap.size + 1) wr v s.2.2
  bel : Below w.heap.size w wr
theorem AdR.set {w : World} {s : Lnk × Bool × List Lnk} {v : Value} {wr w' : World} (R : AdR w s v wr) (y : Lnk) (h : w'.heap[w.heap.size]? = some (.cells (lnkE y).toArray 82 (0, 0))) (g : wr.grownBy w' (some w.heap.size)) : AdR w (y, s.2.1, s.2.2) v w' :=
  ⟨h, World.ownsRow.kept R.own g (.inr (fun e => by have := (World.ownsRow.lt R.own _ e).1; omega)), R.bel.grown g R.bel.size (fun j hj => by cases hj; exact Nat.le_refl _)⟩
theorem AdR.grow {w : World} {s : Lnk × Bool × List Lnk} {v : Value} {wr w' : World} (R : AdR w s v wr) (g : Below wr.heap.size wr w') : AdR w s v w' :=
  ⟨(g.block _ (blk_lt R.box)).trans R.box, R.own.below g, R.bel.trans (g.mono R.bel.size)⟩
theorem AdR.push {w : World} {x : Lnk} {d : Bool} {out : List Lnk} {v v' : Value} {wr w3 w4 : World} (R : AdR w (x, d, out) v wr) (y : Lnk) (hb : Below wr.heap.size wr w3)
    (own' : w4.ownsRow (w.heap.size + 1) 82 4 v' (out.length + 1) ((out.map lnkE).flatten ++ lnkE y)) (hg4 : w3.grownBy w4 v.ownBlock) : AdR w (x, d, out ++ [y]) v' w4 := by
  have R3 := R.grow hb
  refine ⟨(hg4.block _ (blk_lt R3.box) (fun e => by have := (World.ownsRow.lt R3.own _ e.symm).1; omega)).trans R3.box, ?_, R3.bel.grown hg4 R3.bel.size (fun j hj => by have := (World.ownsRow.lt R3.own j hj).1; omega)⟩
  unfold LnksOwn
  rw [List.length_append, List.map_append, List.flatten_append]
  simpa using own'

def AdPost (w : World) (L : List Lnk) (e : Ending) (w' : World) : Prop := ∃ v, e = .returned v ∧ LnksAt w' v L ∧ Fr w.heap.size v ∧ Below w.heap.size w w'

end Go.Proofs.YtddageahmgaigaaGreat

namespace Go.Proofs.YtddageahmgaigaaGreat
open Go.RowKit

end Go.Proofs.YtddageahmgaigaaGreat

namespace Go.Proofs.YtddageahmgaigaaGreat
open Go.RowKit

def InPost (w : World) (l : List Int) (r : Int) (e : Ending) (w' : World) : Prop := ∃ i : Int, e = .returned (.int .i64 i) ∧ (0 ≤ i ↔ r ∈ l) ∧ Gr w w'

def PlIs (l : List Nb) (r : Int) (i : Int) : Prop := (i = -1 ∧ ∀ n ∈ l, n.r ≠ r) ∨ ∃ k : Nat, ∃ h : k < l.length, i = (k : Int) ∧ l[k].r = r ∧ ∀ m, (hm : m < k) → (l[m]'(by omega)).r ≠ r
def PlPost (w : World) (l : List Nb) (r : Int) (e : Ending) (w' : World) : Prop := ∃ i : Int, e = .returned (.int .i64 i) ∧ PlIs l r i ∧ Gr w w'

end Go.Proofs.YtddageahmgaigaaGreat

namespace Go.Proofs.YtddageahmgaigaaGreat
open Go.RowKit

def HcPost (w : World) (e : Ending) (w' : World) : Prop := ∃ a n c, e = .returned (.slice a n c) ∧ Below w.heap.size w w'

end Go.Proofs.YtddageahmgaigaaGreat

namespace Go.Proofs.YtddageahmgaigaaGreat
open Go.RowKit

theorem grown_grown0 {w w1 w2 : World} {r : Option Nat} (h : w.grownBy w1 r) (hb : w1.grownBy w2 r) : w.grownBy w2 r :=
  ⟨hb.os.trans h.os, hb.tape.trans h.tape, hb.output.trans h.output, Nat.le_trans h.size hb.size, fun j hj hn => (hb.block j (Nat.lt_of_lt_of_le hj h.size) hn).trans (h.block j hj hn)⟩

def CnM (w : World) (c : Array Value) (wx : World) : Prop := wx.heap[w.heap.size]? = some (.cells c 72 (0, 0)) ∧ wx.heap[w.heap.size + 1]? = some (.cells #[.int .u32 0, .int .u32 0, .int .i64 0, .int .u32 0, .int .u32 0, .int .i64 0, .int .i64 0, .bool false, .int .i64 0, .slice none 0 0, .slice none 0 0, .bool false, .slice none 0 0, .slice none 0 0, .int .i64 0] 72 (0, 0)) ∧ Below w.heap.size w wx

def CnPost (w : World) (n : Nb) (e : Ending) (w' : World) : Prop := ∃ s9 sA sC sD : Sl, e = .returned (.agg (nbE { n with v9 := s9, v10 := sA, v12 := sC, v13 := sD }).toArray) ∧ Below w.heap.size w w'

end Go.Proofs.YtddageahmgaigaaGreat

namespace Go.Proofs.YtddageahmgaigaaGreat
open Go.RowKit

def HfPost (w : World) (nb : List Nb) (r : Int) (e : Ending) (w' : World) : Prop := ∃ (m : Nb) (b : Bool), e = .returned (.tuple #[.agg (nbE m).toArray, .bool b]) ∧ m.a = addrOf nb r ∧ Below w.heap.size w w'

end Go.Proofs.YtddageahmgaigaaGreat

namespace Go.Proofs.YtddageahmgaigaaGreat
open Go.RowKit

def DgPost (w : World) (rt : Int) (d : IfD) (e : Ending) (w' : World) : Prop := ∃ (a : Int) (b : Bool), e = .returned (.tuple #[.int .u32 a, .bool b]) ∧ desigP rt d = (if b then some a else none) ∧ Below w.heap.size w w'

end Go.Proofs.YtddageahmgaigaaGreat

namespace Go.Proofs.YtddageahmgaigaaGreat
open Go.RowKit

structure IfOk (d : IfD) : Prop where
  k1 : 1 ≤ d.x.kind
  k3 : d.x.kind ≤ 3
  p0 : 0 ≤ d.x.pl
  p1 : d.x.pl ≤ 32

end Go.Proofs.YtddageahmgaigaaGreat

namespace Go.Proofs.YtddageahmgaigaaGreat
open Go.RowKit

def ifcE (x : Ifc) : List Value := [.int .i64 x.kind, .int .u32 x.pa, .int .i64 x.pl, .int .u32 x.ad, .int .u32 x.area, .int .i64 x.cost, .int .i64 x.prio, .int .i64 x.hel, .int .i64 x.dead]

end Go.Proofs.YtddageahmgaigaaGreat

namespace Go.Proofs.YtddageahmgaigaaGreat
open Go.RowKit

theorem addR_len : ∀ (l : List Lnk) (x : Lnk) (d : Bool), (addR x d l).length ≤ l.length + (if d then 0 else 1)
  | [], x, d => by cases d <;> simp [addR]
  | y :: r, x, d => by
    unfold addR
    split
    · have := addR_len r (bestL x y) d
      simp only [List.length_cons]; omega
    · split
      · next h =>
        have := addR_len r x true
        simp only [List.length_cons, if_true] at this ⊢
        rw [h.1]; simp; omega
      · have := addR_len r x d
        simp only [List.length_cons]; omega

theorem LinksOf.same {L L' l : List Lnk} (h : LinksOf L l) (e : ∀ x, x ∈ L ↔ x ∈ L') : LinksOf L' l :=
  ⟨h.1, fun x => (h.2 x).trans ⟨fun m => m.one e, fun m => m.one (fun y => (e y).symm)⟩⟩

structure RrS (w : World) (st : Array Value) (b : Nat) (X : Lsa) (L : List Lnk) (a : Option Addr) (c : Nat) (lk : List Lnk) (wx : World) : Prop where
  bk : wx.heap[b]? = some (.cells (lsaE (lsaLk X a lk.length c)).toArray 42 (0, 0))
  lat : LnksAt wx (.slice a lk.length c) lk
  fr : Fr (b + 1) (.slice a lk.length c)
  ok : LinksOf L lk
  len : lk.length ≤ L.length
  sx : wx.heap[w.heap.size]? = some (.cells st 32 (0, 0))
  sz : wx.heap[w.heap.size + 1]? = some (.cells (lsaE lsaZ).toArray 42 (0, 0))
  bel : Below w.heap.size w wx
  hb : w.heap.size + 2 ≤ b

theorem RrS.grow {w : World} {st : Array Value} {b : Nat} {X : Lsa} {L : List Lnk} {a : Option Addr} {c : Nat} {lk : List Lnk} {wx w' : World} (R : RrS w st b X L a c lk wx) (g : Below wx.heap.size wx w') : RrS w st b X L a c lk w' :=
  ⟨(g.block _ (blk_lt R.bk)).trans R.bk, R.lat.below g, R.fr, R.ok, R.len, (g.block _ (blk_lt R.sx)).trans R.sx, (g.block _ (blk_lt R.sz)).trans R.sz, R.bel.trans (g.mono R.bel.size), R.hb⟩
theorem RrS.same {w : World} {st : Array Value} {b : Nat} {X : Lsa} {L L' : List Lnk} {a : Option Addr} {c : Nat} {lk : List Lnk} {wx : World} (R : RrS w st b X L a c lk wx) (e : ∀ x, x ∈ L ↔ x ∈ L') (hl : L.length ≤ L'.length) : RrS w st b X L' a c lk wx :=
  ⟨R.bk, R.lat, R.fr, R.ok.same e, Nat.le_trans R.len hl, R.sx, R.sz, R.bel, R.hb⟩
theorem RrS.put {w : World} {st : Array Value} {b : Nat} {X : Lsa} {L : List Lnk} {a : Option Addr} {c : Nat} {lk : List Lnk} {wx w1 : World} {v : Value} {x : Lnk} (R : RrS w st b X L a c lk wx) (g : Below wx.heap.size wx w1) (h : LnksAt w1 v (addR x false lk)) (fr : Fr wx.heap.size v) :
    ∃ a' c', v = .slice a' (addR x false lk).length c' ∧ RrS w st b X (L ++ [x]) a' c' (addR x false lk) (w1.setCell ⟨b, 9, none⟩ v) := by
  have R1 := R.grow g
  obtain ⟨a', c', rfl, -⟩ := h.get
  have gs := grown_set w1 b 9 (.slice a' (addR x false lk).length c')
  have hlt := blk_lt R.bk
  have fr' : Fr (b + 1) (.slice a' (addR x false lk).length c') := fr.mono hlt
  refine ⟨a', c', rfl, ?_, h.far fr' (Nat.lt_succ_self b) gs, fr', R.ok.add x, ?_, (gs.block _ (blk_lt R1.sx) (by have := R.hb; simp; omega)).trans R1.sx, (gs.block _ (blk_lt R1.sz) (by have := R.hb; simp; omega)).trans R1.sz, R1.bel.grown gs R1.bel.size (fun j hj => by cases hj; have := R.hb; omega), R.hb⟩
  · have h1 := blk_set R1.bk 9 (.slice a' (addR x false lk).length c')
    simp only [lsaE, lsaLk, List.setIfInBounds_toArray, List.set_cons_zero, List.set_cons_succ] at h1 ⊢
    exact h1
  · have h1 : (addR x false lk).length ≤ lk.length + 1 := addR_len lk x false
    have h2 := R.len
    rw [List.length_append, List.length_singleton]; omega

def ptK (x : Ifc) (nb : List Nb) (i : Nat) : List Lnk := (fulls (nb.take i)).map (pointL x)

end Go.Proofs.YtddageahmgaigaaGreat

namespace Go.Proofs.YtddageahmgaigaaGreat
open Go.RowKit

def NbOrd (nb : List Nb) : Prop := (∀ n ∈ nb, n.r ≠ 0) ∧ nb.Pairwise fun a b => a.r < b.r
def OrdK (nb : List Nb) (m : Nat) : Prop := ∀ i, (h : i < nb.length) → i < m → nb[i].r ≠ 0 ∧ (0 < i → nb[i - 1].r < nb[i].r)

theorem ordK_asc {nb : List Nb} (h : OrdK nb nb.length) : ∀ n i, (c : i + n + 1 < nb.length) → (nb[i]'(by omega)).r < nb[i + n + 1].r
  | 0, i, c => by
    have := (h (i + 1) c c).2 (by omega)
    simpa using this
  | n + 1, i, c => by
    have h1 := ordK_asc h n i (by omega)
    have h2 := (h (i + (n + 1) + 1) c c).2 (by omega)
    have e : nb[i + (n + 1) + 1 - 1] = nb[i + n + 1] := rfl
    rw [e] at h2
    omega
theorem OrdK.all {nb : List Nb} (h : OrdK nb nb.length) : NbOrd nb := by
  refine ⟨fun n hn => ?_, ?_⟩
  · obtain ⟨i, hi, rfl⟩ := List.getElem_of_mem hn
    exact (h i hi hi).1
  · rw [List.pairwise_iff_getElem]
    intro i j hi hj hij
    have := ordK_asc h (j - i - 1) i (by omega)
    have e : i + (j - i - 1) + 1 = j := by omega
    simp only [e] at this
    exact this

def OrdPost (w : World) (l : List IfD) (e : Ending) (w' : World) : Prop := ∃ b, e = .returned (.bool b) ∧ Gr w w' ∧ (b = true → ∀ d ∈ l, NbOrd d.nb)

set_option maxHeartbeats 8000000 in
set_option maxRecDepth 100000 in
theorem ordered_calls (w : World) (v : Value) (l : List IfD) (h : IfsAt w v l) : Calls Tryz.prog 10 #[v] w (OrdPost w l) := by
  obtain ⟨a1, c1, rfl, hlen, hc1⟩ := h.get
  have HC1 := Lib.hid hc1
  have HNB := Lib.hid (fun k (c : k < l.length) => (h.inn _ (List.getElem_mem c)).nb)
  have mixed : Tryz.prog.follows .mixedOrders = true := by kernel_rfl
  clear h hc1
  go_enter Tryz.func10, Tryz.ntmps10
  go_wp2_with fail
  go_loopw [7, 3] (fun i _ wr => ∃ k : Nat, i = .int .i64 k ∧ k ≤ l.length ∧ Hid (Gr w wr) ∧ Hid (∀ m, (hm : m < l.length) → m < k → NbOrd l[m].nb)) (fun i _ _ => l.length - (intOf i).toNat)
  case atStart => exact ⟨0, rfl, Nat.zero_le _, Lib.hid (Gr.refl _), Lib.hid (fun m _ hm => absurd hm (by omega))⟩
  case round =>
    obtain ⟨k, rfl, hk, GG, NO⟩ := hrel
    by_cases c : k < l.length
    · obtain ⟨b1, o1, rfl, hb1, hcc1⟩ := HC1.out (by omega)
      obtain ⟨-, -, ⟨-, -, -, -, d14⟩⟩ := (hcc1 k c).below GG.out.b hb1
      have KC := Lib.hid c
      have i0 : (0 : Int) ≤ (k : Int) := by omega
      have i1 : (k : Int) < (l.length : Int) := by omega
      have s3 : ((k : Int)).toNat = k := by omega
      have NBS := Lib.hid ((HNB.out k c).below GG.out.b)
      have NXT : Hid (NbOrd l[k].nb → ∀ m, (hm : m < l.length) → m < k + 1 → NbOrd l[m].nb) := Lib.hid (fun e m hm h => by
        rcases Nat.lt_or_ge m k with h' | h'
        · exact NO.out m hm h'
        · obtain rfl : m = k := by omega
          exact e)
      clear hcc1 NO
      generalize l[k] = x at *
      clear c
      obtain ⟨⟨kind, pa, pl, ad, area, cost, prio, hel, dead, up, dr, bdr, el, nh, na, nn, nc⟩, nb⟩ := x
      simp only at d14 NBS NXT
      obtain ⟨a2, c2, e2, hlen2, hc2⟩ := NBS.out.get
      simp only [Value.slice.injEq] at e2
      obtain ⟨rfl, rfl, rfl⟩ := e2
      have HC2 := Lib.hid hc2
      have D14 := Lib.hid d14
      have B1LT := Lib.hid (World.block_lt_of_cell? _ _ d14)
      clear hc2 NBS
      go_wp2_with fail
      clear d14
      obtain ⟨WO, eWO⟩ : ∃ x, x = wr := ⟨_, rfl⟩
      subst eWO
      go_loopw [16, 4] (fun ix _ wq => ∃ j : Nat, ix = .int .i64 j ∧ j ≤ nb.length ∧ Hid (Gr WO wq) ∧ Hid (OrdK nb j)) (fun ix _ _ => nb.length - (intOf ix).toNat)
      case atStart => exact ⟨0, rfl, Nat.zero_le _, Lib.hid (Gr.refl _), Lib.hid (fun m _ hm => absurd hm (by omega))⟩
      case round =>
        obtain ⟨j, rfl, hj, GQ, OK⟩ := hrel
        by_cases cj : j < nb.length
        · obtain ⟨b2, o2, rfl, hb2, hcc2⟩ := HC2.out (by omega)
          obtain ⟨⟨n0, -, -, -, -⟩, -, -⟩ := (hcc2 j cj).below GQ.out.b hb2
          have d14 : wr.cell? ⟨b1, o1 + k * 15 + 14, none⟩ = some (.slice (some ⟨b2, o2, none⟩) nb.length nc) := (World.cell?_of_block (a := ⟨b1, o1 + k * 15 + 14, none⟩) (GQ.out.b.block b1 B1LT.out)).trans D14.out
          have JC := Lib.hid cj
          have j0 : (0 : Int) ≤ (j : Int) := by omega
          have j1 : (j : Int) < (nb.length : Int) := by omega
          have t3 : ((j : Int)).toNat = j := by omega
          have GR := Lib.hid (fun n => GG.out.trans (GQ.out.trans ((Gr.refl wr).drewN n)))
          have GR2 := Lib.hid (fun n => GQ.out.trans ((Gr.refl wr).drewN n))
          by_cases q0 : nb[j].r = 0
          · replace n0 := n0.trans (congrArg (fun t => some (Value.int .u32 t)) q0)
            clear hcc2 q0 OK cj
            go_upto_region 7 with fail
            go_quiet (fail)
            go_wp2_with fail
            go_returns
            exact ⟨false, rfl, GR.out _, fun h => by cases h⟩
          · have qr : (nb[j].r == 0) = false := by simpa using q0
            by_cases z : j = 0
            · have dz : decide (0 < j) = false := decide_eq_false (by omega)
              have NX : Hid (OrdK nb (j + 1)) := Lib.hid (fun i hi h => by
                obtain rfl : i = j := by omega
                exact ⟨q0, fun h => absurd h (by omega)⟩)
              generalize nb[j].r = nr at *
              clear hcc2 q0 OK z
              go_upto_region 7 with fail
              go_quiet (fail)
              go_wp2_with fail
              go_roundw
              case rel => exact ⟨j + 1, by go_num, JC.out, Lib.hid (GR2.out _), NX⟩
              case measure => simp [intOf]; have := JC.out; omega
            · obtain ⟨⟨p0, -, -, -, -⟩, -, -⟩ := (hcc2 (j - 1) (by omega)).below GQ.out.b hb2
              have dz : decide (0 < j) = true := decide_eq_true (by omega)
              have m0 : (0 : Int) ≤ (j : Int) - 1 := by omega
              have m1 : (j : Int) - 1 < (nb.length : Int) := by omega
              have m3 : ((j : Int) - 1).toNat = j - 1 := by omega
              have YES : Hid (nb[j - 1].r < nb[j].r → OrdK nb (j + 1)) := Lib.hid (fun q i hi h => by
                rcases Nat.lt_or_ge i j with h' | h'
                · exact OK.out i hi h'
                · obtain rfl : i = j := by omega
                  exact ⟨q0, fun _ => q⟩)
              generalize nb[j].r = nr at *
              generalize nb[j - 1].r = pr at *
              clear hcc2 q0 OK z
              by_cases q1 : pr < nr
              · have dl : decide (nr ≤ pr) = false := decide_eq_false (by omega)
                have NX := Lib.hid (YES.out q1)
                clear YES q1
                go_upto_region 7 with fail
                go_quiet (fail)
                go_wp2_with fail
                go_roundw
                case rel => exact ⟨j + 1, by go_num, JC.out, Lib.hid (GR2.out _), NX⟩
                case measure => simp [intOf]; have := JC.out; omega
              · have dl : decide (nr ≤ pr) = true := decide_eq_true (by omega)
                clear YES q1
                go_upto_region 7 with fail
                go_quiet (fail)
                go_wp2_with fail
                go_returns
                exact ⟨false, rfl, GR.out _, fun h => by cases h⟩
        · obtain rfl : j = nb.length := by omega
          have N := Lib.hid (NXT.out OK.out.all)
          have G2 := Lib.hid (GG.out.trans GQ.out)
          clear OK NXT
          go_wp2_with fail
          go_roundw
          case rel => exact ⟨k + 1, by go_num, KC.out, G2, N⟩
          case measure => simp [intOf]; have := KC.out; omega
    · have E : Hid (∀ d ∈ l, NbOrd d.nb) := Lib.hid (fun d hd => by
        obtain ⟨i, hi, rfl⟩ := List.getElem_of_mem hd
        exact NO.out i hi (by omega))
      clear NO
      go_wp2_with fail
      go_ret
      exact ⟨true, rfl, GG.out, fun _ => E.out⟩

end Go.Proofs.YtddageahmgaigaaGreat

namespace Go.Proofs.YtddageahmgaigaaGreat
open Go.RowKit

def kpN (x m k : Nat) : Nat := x / 2 ^ (32 - m) * 2 ^ (32 - m) + x % 2 ^ (32 - k)
theorem kpN_lt (x m k : Nat) (hx : x < 4294967296) (hmk : m ≤ k) (_hk : k ≤ 32) : kpN x m k < 4294967296 := by
  unfold kpN
  have h1 := Nat.div_add_mod' x (2 ^ (32 - m))
  have h2 : x % 2 ^ (32 - k) ≤ x % 2 ^ (32 - m) := by
    rw [show 2 ^ (32 - m) = 2 ^ (32 - k) * 2 ^ (k - m) from by rw [← Nat.pow_add]; congr 1; omega, Nat.mod_mul]
    omega
  omega
theorem kpN_start (x m : Nat) : kpN x m m = x := Nat.div_add_mod' x _
theorem kpN_end (x m : Nat) : kpN x m 32 = x / 2 ^ (32 - m) * 2 ^ (32 - m) := by unfold kpN; simp [Nat.mod_one]
theorem kpN_step (x m k : Nat) (hmk : m ≤ k) (hk : k < 32) : kpN x m k / 2 ^ (31 - k) % 2 = x / 2 ^ (31 - k) % 2 ∧ kpN x m k = kpN x m (k + 1) + 2 ^ (31 - k) * (x / 2 ^ (31 - k) % 2) := by
  unfold kpN
  have e1 : 2 ^ (32 - k) = 2 ^ (31 - k) * 2 := by rw [← Nat.pow_succ]; congr 1; omega
  have e2 : 2 ^ (32 - m) = 2 ^ (31 - k) * (2 * 2 ^ (k - m)) := by rw [← Nat.mul_assoc, ← e1, ← Nat.pow_add]; congr 1; omega
  have e3 : 32 - (k + 1) = 31 - k := by omega
  have hP : 0 < 2 ^ (31 - k) := Nat.pow_pos (by omega)
  rw [e3, e1, e2, Nat.mod_mul]
  generalize 2 ^ (31 - k) = P at *
  generalize 2 ^ (k - m) = Q at *
  refine ⟨?_, by omega⟩
  have h1 : x / (P * (2 * Q)) * (P * (2 * Q)) + (x % P + P * (x / P % 2)) = x % P + P * (2 * (x / (P * (2 * Q)) * Q) + x / P % 2) := by
    have : x / (P * (2 * Q)) * (P * (2 * Q)) = P * (2 * (x / (P * (2 * Q)) * Q)) := by
      rw [← Nat.mul_assoc, Nat.mul_comm (x / (P * (2 * Q))) P, Nat.mul_assoc]
      congr 1
      rw [← Nat.mul_assoc, Nat.mul_comm (x / (P * (2 * Q))) 2, Nat.mul_assoc]
    rw [this, Nat.mul_add]; omega
  rw [h1, Nat.add_mul_div_left _ _ hP, Nat.div_eq_of_lt (Nat.mod_lt _ hP)]
  omega

theorem nat_emod {P : Nat} (h : P < 4294967296) : (P : Int) % 4294967296 = P := by omega

theorem and_pow (y j : Nat) : y &&& 2 ^ j = 2 ^ j * (y / 2 ^ j % 2) := by
  have hb : y.testBit j = decide (y / 2 ^ j % 2 = 1) := Nat.testBit_eq_decide_div_mod_eq
  apply Nat.eq_of_testBit_eq
  intro i
  rw [Nat.testBit_and, Nat.testBit_two_pow]
  rcases Nat.mod_two_eq_zero_or_one (y / 2 ^ j) with h | h
  · rw [h, Nat.mul_zero, Nat.zero_testBit]
    by_cases e : j = i
    · subst e; rw [hb, h]; rfl
    · simp [e]
  · rw [h, Nat.mul_one, Nat.testBit_two_pow]
    by_cases e : j = i
    · subst e; rw [hb, h]; rfl
    · simp [e]

theorem and_bit (y k : Nat) (hy : y < 4294967296) (hk : k < 32) : bits BinOp.and IntKind.u32 (y : Int) (2 ^ (31 - k) % 4294967296) = ((2 ^ (31 - k) * (y / 2 ^ (31 - k) % 2) : Nat) : Int) := by
  have hp : 2 ^ (31 - k) < 4294967296 := Nat.lt_of_le_of_lt (Nat.pow_le_pow_right (by omega) (by omega : 31 - k ≤ 31)) (by decide)
  have e : ((2 : Int) ^ (31 - k) % 4294967296) = ((2 ^ (31 - k) : Nat) : Int) := by
    rw [two_pow_cast]
    exact nat_emod hp
  rw [e, (bits_nat .u32 32 (by decide) wraps_u32 y (2 ^ (31 - k)) (by omega) (by omega)).1, and_pow]

theorem keepN (x m : Nat) (hm : m ≤ 32) : keepI (x : Int) (m : Int) = ((kpN x m 32 : Nat) : Int) := by
  rw [kpN_end]
  unfold keepI
  rw [show (32 - (m : Int)).toNat = 32 - m from by omega]
  have := Nat.div_add_mod' x (2 ^ (32 - m))
  generalize 2 ^ (32 - m) = P at *
  generalize x / P * P = q at *
  omega

set_option maxHeartbeats 1000000 in
theorem keep23_calls (x n : Int) (h0 : 0 ≤ n) (h1 : n ≤ 32) (x0 : 0 ≤ x) (x1 : x < 4294967296) (w : World) : Calls Tryz.prog 69 #[.int .u32 x, .int .i64 n] w fun e w' => e = .returned (.int .u32 (keepI x n)) ∧ w = w' := by
  obtain ⟨m, rfl⟩ := Int.eq_ofNat_of_zero_le h0
  obtain ⟨x, rfl⟩ := Int.eq_ofNat_of_zero_le x0
  have hm : m ≤ 32 := by omega
  have hx : x < 4294967296 := by omega
  have KE := Lib.hid (keepN x m hm)
  clear h0 h1 x0 x1
  go_enter Tryz.func69, Tryz.ntmps69
  go_wp2_with fail
  go_loop [0, 5] (fun v i => ∃ (k y : Nat), i = .int .i64 k ∧ v = .int .u32 y ∧ m ≤ k ∧ k ≤ 32 ∧ Hid (y = kpN x m k)) (fun _ i => 32 - (intOf i).toNat)
  case atStart => exact ⟨m, x, rfl, rfl, Nat.le_refl _, hm, Lib.hid (kpN_start x m).symm⟩
  case round =>
    obtain ⟨k, y, rfl, rfl, hmk, hk, Y⟩ := hrel
    have hy : y < 4294967296 := by rw [Y.out]; exact kpN_lt x m k hx hmk hk
    by_cases c : k < 32
    · have eb := and_bit y k hy c
      obtain ⟨s1, s2⟩ := kpN_step x m k hmk c
      rw [← Y.out] at s1 s2
      rw [s1] at eb
      rcases Nat.mod_two_eq_zero_or_one (x / 2 ^ (31 - k)) with hb | hb
      · rw [hb, Nat.mul_zero] at eb
        rw [hb, Nat.mul_zero, Nat.add_zero] at s2
        have S2 := Lib.hid s2
        have eb2 : (bits BinOp.and IntKind.u32 (y : Int) (2 ^ (31 - k) % 4294967296) != 0) = false := by rw [eb]; rfl
        clear hb s1 s2 eb
        go_wp2_with fail
        go_round
        case rel => exact ⟨k + 1, y, by go_num, rfl, by omega, c, S2⟩
        case measure => simp [intOf]; omega
      · rw [hb, Nat.mul_one] at eb
        rw [hb, Nat.mul_one] at s2
        have hp : 0 < 2 ^ (31 - k) := Nat.pow_pos (by omega)
        have eb2 : (bits BinOp.and IntKind.u32 (y : Int) (2 ^ (31 - k) % 4294967296) != 0) = true := by
          rw [eb]; simp only [bne_iff_ne, ne_eq]; omega
        have S2 : Hid (y - 2 ^ (31 - k) = kpN x m (k + 1)) := Lib.hid (by omega)
        have EV : Hid (((y : Int) - 2 ^ (31 - k) % 4294967296) % 4294967296 = ((y - 2 ^ (31 - k) : Nat) : Int)) := Lib.hid (by
          have e : ((2 : Int) ^ (31 - k) % 4294967296) = ((2 ^ (31 - k) : Nat) : Int) := by rw [two_pow_cast]; exact nat_emod (Nat.lt_of_le_of_lt (Nat.pow_le_pow_right (by omega) (by omega : 31 - k ≤ 31)) (by decide))
          rw [e]; omega)
        clear hb s1 s2 eb hp
        go_wp2_with fail
        go_round
        case rel =>
          exact ⟨k + 1, _, by go_num, by rw [EV.out], by omega, c, S2⟩
        case measure => simp [intOf]; omega
    · obtain rfl : k = 32 := by omega
      go_wp2_with fail
      go_ret
      exact ⟨by rw [KE.out, Y.out]; rfl, rfl⟩

def inB (pa pl ad : Int) : Bool := decide (keepI ad pl = pa)

set_option maxHeartbeats 4000000 in
theorem in26_calls (pa pl ad : Int) (h0 : 0 ≤ pl) (h1 : pl ≤ 32) (x0 : 0 ≤ ad) (x1 : ad < 4294967296) (w : World) :
    Calls Tryz.prog 34 #[.agg #[.int .u32 pa, .int .i64 pl], .int .u32 ad] w fun e w' => e = .returned (.bool (inB pa pl ad)) ∧ Gr w w' := by
  have KP := Lib.hid (fun W => keep23_calls ad pl h0 h1 x0 x1 W)
  have mixed : Tryz.prog.follows .mixedOrders = true := by kernel_rfl
  clear h0 h1 x0 x1
  unfold inB
  generalize keepI ad pl = kp at *
  obtain ⟨W0, hW0⟩ : ∃ W0, w.alloc (.cells #[.int .u32 pa, .int .i64 pl] 64) = W0 := ⟨_, rfl⟩
  have b0 : W0.heap[w.heap.size]? = some (.cells #[.int .u32 pa, .int .i64 pl] 64 (0, 0)) := by rw [← hW0]; exact alloc_new w _
  have G0 : Hid (Gr w W0) := Lib.hid (by rw [← hW0]; exact (Gr.refl _).alloc _)
  have p0 := blk_cell (i := 0) b0 rfl
  have p1 := blk_cell (i := 1) b0 rfl
  have HW0 := Lib.hid hW0
  have FIN := Lib.hid (fun n => G0.out.trans ((Gr.refl W0).drewN n))
  have eq1 : ∀ kp pa : Int, (kp == pa) = decide (kp = pa) := fun kp pa => by by_cases c : kp = pa <;> simp [c]
  have e1 := eq1 kp pa
  clear hW0 b0 eq1
  go_enter Tryz.func34, Tryz.ntmps34
  go_upto_region 1 with fail
  rw [HW0.out]
  go_quiet ((go_at_call 69; exact quiet1 KP.out))
  clear p0 p1
  go_wp2_with fail
  go_ret
  exact ⟨rfl, FIN.out _⟩

def chk26 (x : Ifc) : Int :=
  if withinB x.kind 1 3 = false then 15
  else if fitsB x.pa x.pl = false ∨ x.ad = 0 ∨ inB x.pa x.pl x.ad = false then 1
  else if withinB x.cost 1 65535 = false ∨ withinB x.prio 0 255 = false ∨ withinB x.hel 1 65535 = false ∨ withinB x.dead x.hel 65535 = false then 5 else 0

theorem fitsB_len {x n : Int} (h : fitsB x n = true) : 0 ≤ n ∧ n ≤ 32 := by
  unfold fitsB validP at h
  simp only [Bool.and_eq_true, decide_eq_true_eq] at h
  exact ⟨h.1.1, h.1.2⟩

def C26Post (w : World) (c : Int) (e : Ending) (w' : World) : Prop := e = .returned (.int .i64 c) ∧ Gr w w'

set_option maxHeartbeats 8000000 in
theorem check26_calls (x : Ifc) (w : World) (a0 : 0 ≤ x.pa) (a1 : x.pa < 4294967296) (d0 : 0 ≤ x.ad) (d1 : x.ad < 4294967296) : Calls Tryz.prog 33 #[.agg (ifcE x).toArray] w (C26Post w (chk26 x)) := by
  obtain ⟨kind, pa, pl, ad, area, cost, prio, hel, dead, up, dr, bdr, el, nh, na, nn, nc⟩ := x
  simp only at a0 a1 d0 d1
  have FC := Lib.hid (fun W => fits_calls pa pl a0 a1 W)
  have IN := Lib.hid (fun h0 h1 W => in26_calls pa pl ad h0 h1 d0 d1 W)
  simp only [ifcE]
  obtain ⟨W0, hW0⟩ : ∃ W0, w.alloc (.cells #[.int .i64 kind, .int .u32 pa, .int .i64 pl, .int .u32 ad, .int .u32 area, .int .i64 cost, .int .i64 prio, .int .i64 hel, .int .i64 dead] 66) = W0 := ⟨_, rfl⟩
  have B0 : Hid (W0.heap[w.heap.size]? = some (.cells #[.int .i64 kind, .int .u32 pa, .int .i64 pl, .int .u32 ad, .int .u32 area, .int .i64 cost, .int .i64 prio, .int .i64 hel, .int .i64 dead] 66 (0, 0))) := Lib.hid (by rw [← hW0]; exact alloc_new w _)
  have G0 : Hid (Gr w W0) := Lib.hid (by rw [← hW0]; exact (Gr.refl _).alloc _)
  have c0 : W0.cell? ⟨w.heap.size, 0, none⟩ = some (.int .i64 kind) := blk_cell B0.out rfl
  have c1 : W0.cell? ⟨w.heap.size, 1, none⟩ = some (.int .u32 pa) := blk_cell B0.out rfl
  have c2 : W0.cell? ⟨w.heap.size, 2, none⟩ = some (.int .i64 pl) := blk_cell B0.out rfl
  have c3 : W0.cell? ⟨w.heap.size, 3, none⟩ = some (.int .u32 ad) := blk_cell B0.out rfl
  have HW0 := Lib.hid hW0
  clear hW0 a0 a1 d0 d1
  cases h1 : withinB kind 1 3 with
  | false =>
    have E : Hid (chk26 ⟨kind, pa, pl, ad, area, cost, prio, hel, dead, up, dr, bdr, el, nh, na, nn, nc⟩ = 15) := Lib.hid (by simp [chk26, h1])
    rw [E.out]
    clear E
    go_enter Tryz.func33, Tryz.ntmps33
    go_upto_region 1 with fail
    rw [HW0.out]
    go_wp2_with (first | (go_at_call 67; refine (within26_calls _ _ _ _).mono ?_; rintro e w' ⟨rfl, rfl⟩) | (go_at_call 68; refine (FC.out _).mono ?_; rintro e w' ⟨rfl, rfl⟩))
    go_ret
    exact ⟨rfl, G0.out⟩
  | true =>
  cases h2 : fitsB pa pl with
  | false =>
    have E : Hid (chk26 ⟨kind, pa, pl, ad, area, cost, prio, hel, dead, up, dr, bdr, el, nh, na, nn, nc⟩ = 1) := Lib.hid (by simp [chk26, h1, h2])
    rw [E.out]
    clear E
    go_enter Tryz.func33, Tryz.ntmps33
    go_upto_region 1 with fail
    rw [HW0.out]
    go_wp2_with (first | (go_at_call 67; refine (within26_calls _ _ _ _).mono ?_; rintro e w' ⟨rfl, rfl⟩) | (go_at_call 68; refine (FC.out _).mono ?_; rintro e w' ⟨rfl, rfl⟩))
    go_ret
    exact ⟨rfl, G0.out⟩
  | true =>
  have H2 := Lib.hid h2
  by_cases h3 : ad = 0
  · subst h3
    have E : Hid (chk26 ⟨kind, pa, pl, 0, area, cost, prio, hel, dead, up, dr, bdr, el, nh, na, nn, nc⟩ = 1) := Lib.hid (by simp [chk26, h1, h2])
    rw [E.out]
    clear E
    go_enter Tryz.func33, Tryz.ntmps33
    go_upto_region 1 with fail
    rw [HW0.out]
    go_wp2_with (first | (go_at_call 67; refine (within26_calls _ _ _ _).mono ?_; rintro e w' ⟨rfl, rfl⟩) | (go_at_call 68; refine (FC.out _).mono ?_; rintro e w' ⟨rfl, rfl⟩))
    go_ret
    exact ⟨rfl, G0.out⟩
  have h3' : (ad == 0) = false := by simpa using h3
  cases h4 : inB pa pl ad with
  | false =>
    have E : Hid (chk26 ⟨kind, pa, pl, ad, area, cost, prio, hel, dead, up, dr, bdr, el, nh, na, nn, nc⟩ = 1) := Lib.hid (by simp [chk26, h1, h2, h3, h4])
    rw [E.out]
    clear E
    go_enter Tryz.func33, Tryz.ntmps33
    go_upto_region 1 with fail
    rw [HW0.out]
    go_wp2_with (first | (go_at_call 67; refine (within26_calls _ _ _ _).mono ?_; rintro e w' ⟨rfl, rfl⟩) | (go_at_call 68; refine (FC.out _).mono ?_; rintro e w' ⟨rfl, rfl⟩) | (go_at_call 34; refine (IN.out (fitsB_len H2.out).1 (fitsB_len H2.out).2 _).mono ?_; rintro e w1 ⟨rfl, G1⟩; have GG := Lib.hid (G0.out.trans G1); have b1 := (G1.b.block _ (blk_lt B0.out)).trans B0.out; have k5 : w1.cell? ⟨w.heap.size, 5, none⟩ = some (.int .i64 cost) := blk_cell b1 rfl; have k6 : w1.cell? ⟨w.heap.size, 6, none⟩ = some (.int .i64 prio) := blk_cell b1 rfl; have k7 : w1.cell? ⟨w.heap.size, 7, none⟩ = some (.int .i64 hel) := blk_cell b1 rfl; have k8 : w1.cell? ⟨w.heap.size, 8, none⟩ = some (.int .i64 dead) := blk_cell b1 rfl; have k4 : w1.cell? ⟨w.heap.size, 4, none⟩ = some (.int .u32 area) := blk_cell b1 rfl; clear b1 G1))
    go_ret
    exact ⟨rfl, GG.out⟩
  | true =>
  cases h5 : withinB cost 1 65535 with
  | false =>
    have E : Hid (chk26 ⟨kind, pa, pl, ad, area, cost, prio, hel, dead, up, dr, bdr, el, nh, na, nn, nc⟩ = 5) := Lib.hid (by simp [chk26, h1, h2, h3, h4, h5])
    rw [E.out]
    clear E
    go_enter Tryz.func33, Tryz.ntmps33
    go_upto_region 1 with fail
    rw [HW0.out]
    go_wp2_with (first | (go_at_call 67; refine (within26_calls _ _ _ _).mono ?_; rintro e w' ⟨rfl, rfl⟩) | (go_at_call 68; refine (FC.out _).mono ?_; rintro e w' ⟨rfl, rfl⟩) | (go_at_call 34; refine (IN.out (fitsB_len H2.out).1 (fitsB_len H2.out).2 _).mono ?_; rintro e w1 ⟨rfl, G1⟩; have GG := Lib.hid (G0.out.trans G1); have b1 := (G1.b.block _ (blk_lt B0.out)).trans B0.out; have k5 : w1.cell? ⟨w.heap.size, 5, none⟩ = some (.int .i64 cost) := blk_cell b1 rfl; have k6 : w1.cell? ⟨w.heap.size, 6, none⟩ = some (.int .i64 prio) := blk_cell b1 rfl; have k7 : w1.cell? ⟨w.heap.size, 7, none⟩ = some (.int .i64 hel) := blk_cell b1 rfl; have k8 : w1.cell? ⟨w.heap.size, 8, none⟩ = some (.int .i64 dead) := blk_cell b1 rfl; have k4 : w1.cell? ⟨w.heap.size, 4, none⟩ = some (.int .u32 area) := blk_cell b1 rfl; clear b1 G1))
    go_ret
    exact ⟨rfl, GG.out⟩
  | true =>
  cases h6 : withinB prio 0 255 with
  | false =>
    have E : Hid (chk26 ⟨kind, pa, pl, ad, area, cost, prio, hel, dead, up, dr, bdr, el, nh, na, nn, nc⟩ = 5) := Lib.hid (by simp [chk26, h1, h2, h3, h4, h5, h6])
    rw [E.out]
    clear E
    go_enter Tryz.func33, Tryz.ntmps33
    go_upto_region 1 with fail
    rw [HW0.out]
    go_wp2_with (first | (go_at_call 67; refine (within26_calls _ _ _ _).mono ?_; rintro e w' ⟨rfl, rfl⟩) | (go_at_call 68; refine (FC.out _).mono ?_; rintro e w' ⟨rfl, rfl⟩) | (go_at_call 34; refine (IN.out (fitsB_len H2.out).1 (fitsB_len H2.out).2 _).mono ?_; rintro e w1 ⟨rfl, G1⟩; have GG := Lib.hid (G0.out.trans G1); have b1 := (G1.b.block _ (blk_lt B0.out)).trans B0.out; have k5 : w1.cell? ⟨w.heap.size, 5, none⟩ = some (.int .i64 cost) := blk_cell b1 rfl; have k6 : w1.cell? ⟨w.heap.size, 6, none⟩ = some (.int .i64 prio) := blk_cell b1 rfl; have k7 : w1.cell? ⟨w.heap.size, 7, none⟩ = some (.int .i64 hel) := blk_cell b1 rfl; have k8 : w1.cell? ⟨w.heap.size, 8, none⟩ = some (.int .i64 dead) := blk_cell b1 rfl; have k4 : w1.cell? ⟨w.heap.size, 4, none⟩ = some (.int .u32 area) := blk_cell b1 rfl; clear b1 G1))
    go_ret
    exact ⟨rfl, GG.out⟩
  | true =>
  cases h7 : withinB hel 1 65535 with
  | false =>
    have E : Hid (chk26 ⟨kind, pa, pl, ad, area, cost, prio, hel, dead, up, dr, bdr, el, nh, na, nn, nc⟩ = 5) := Lib.hid (by simp [chk26, h1, h2, h3, h4, h5, h6, h7])
    rw [E.out]
    clear E
    go_enter Tryz.func33, Tryz.ntmps33
    go_upto_region 1 with fail
    rw [HW0.out]
    go_wp2_with (first | (go_at_call 67; refine (within26_calls _ _ _ _).mono ?_; rintro e w' ⟨rfl, rfl⟩) | (go_at_call 68; refine (FC.out _).mono ?_; rintro e w' ⟨rfl, rfl⟩) | (go_at_call 34; refine (IN.out (fitsB_len H2.out).1 (fitsB_len H2.out).2 _).mono ?_; rintro e w1 ⟨rfl, G1⟩; have GG := Lib.hid (G0.out.trans G1); have b1 := (G1.b.block _ (blk_lt B0.out)).trans B0.out; have k5 : w1.cell? ⟨w.heap.size, 5, none⟩ = some (.int .i64 cost) := blk_cell b1 rfl; have k6 : w1.cell? ⟨w.heap.size, 6, none⟩ = some (.int .i64 prio) := blk_cell b1 rfl; have k7 : w1.cell? ⟨w.heap.size, 7, none⟩ = some (.int .i64 hel) := blk_cell b1 rfl; have k8 : w1.cell? ⟨w.heap.size, 8, none⟩ = some (.int .i64 dead) := blk_cell b1 rfl; have k4 : w1.cell? ⟨w.heap.size, 4, none⟩ = some (.int .u32 area) := blk_cell b1 rfl; clear b1 G1))
    go_ret
    exact ⟨rfl, GG.out⟩
  | true =>
  cases h8 : withinB dead hel 65535 with
  | false =>
    have E : Hid (chk26 ⟨kind, pa, pl, ad, area, cost, prio, hel, dead, up, dr, bdr, el, nh, na, nn, nc⟩ = 5) := Lib.hid (by simp [chk26, h1, h2, h3, h4, h5, h6, h7, h8])
    rw [E.out]
    clear E
    go_enter Tryz.func33, Tryz.ntmps33
    go_upto_region 1 with fail
    rw [HW0.out]
    go_wp2_with (first | (go_at_call 67; refine (within26_calls _ _ _ _).mono ?_; rintro e w' ⟨rfl, rfl⟩) | (go_at_call 68; refine (FC.out _).mono ?_; rintro e w' ⟨rfl, rfl⟩) | (go_at_call 34; refine (IN.out (fitsB_len H2.out).1 (fitsB_len H2.out).2 _).mono ?_; rintro e w1 ⟨rfl, G1⟩; have GG := Lib.hid (G0.out.trans G1); have b1 := (G1.b.block _ (blk_lt B0.out)).trans B0.out; have k5 : w1.cell? ⟨w.heap.size, 5, none⟩ = some (.int .i64 cost) := blk_cell b1 rfl; have k6 : w1.cell? ⟨w.heap.size, 6, none⟩ = some (.int .i64 prio) := blk_cell b1 rfl; have k7 : w1.cell? ⟨w.heap.size, 7, none⟩ = some (.int .i64 hel) := blk_cell b1 rfl; have k8 : w1.cell? ⟨w.heap.size, 8, none⟩ = some (.int .i64 dead) := blk_cell b1 rfl; have k4 : w1.cell? ⟨w.heap.size, 4, none⟩ = some (.int .u32 area) := blk_cell b1 rfl; clear b1 G1))
    go_ret
    exact ⟨rfl, GG.out⟩
  | true =>
  have E : Hid (chk26 ⟨kind, pa, pl, ad, area, cost, prio, hel, dead, up, dr, bdr, el, nh, na, nn, nc⟩ = 0) := Lib.hid (by simp [chk26, h1, h2, h3, h4, h5, h6, h7, h8])
  rw [E.out]
  clear E
  go_enter Tryz.func33, Tryz.ntmps33
  go_upto_region 1 with fail
  rw [HW0.out]
  go_wp2_with (first | (go_at_call 67; refine (within26_calls _ _ _ _).mono ?_; rintro e w' ⟨rfl, rfl⟩) | (go_at_call 68; refine (FC.out _).mono ?_; rintro e w' ⟨rfl, rfl⟩) | (go_at_call 34; refine (IN.out (fitsB_len H2.out).1 (fitsB_len H2.out).2 _).mono ?_; rintro e w1 ⟨rfl, G1⟩; have GG := Lib.hid (G0.out.trans G1); have b1 := (G1.b.block _ (blk_lt B0.out)).trans B0.out; have k5 : w1.cell? ⟨w.heap.size, 5, none⟩ = some (.int .i64 cost) := blk_cell b1 rfl; have k6 : w1.cell? ⟨w.heap.size, 6, none⟩ = some (.int .i64 prio) := blk_cell b1 rfl; have k7 : w1.cell? ⟨w.heap.size, 7, none⟩ = some (.int .i64 hel) := blk_cell b1 rfl; have k8 : w1.cell? ⟨w.heap.size, 8, none⟩ = some (.int .i64 dead) := blk_cell b1 rfl; have k4 : w1.cell? ⟨w.heap.size, 4, none⟩ = some (.int .u32 area) := blk_cell b1 rfl; clear b1 G1))
  go_ret
  exact ⟨rfl, GG.out⟩

def accB (l : List IfD) : Bool := l.all fun d => decide (chk26 d.x = 0)

set_option maxHeartbeats 8000000 in
set_option maxRecDepth 100000 in
theorem accepted_calls (w : World) (v : Value) (l : List IfD) (h : IfsAt w v l) (hr : ∀ d ∈ l, 0 ≤ d.x.pa ∧ d.x.pa < 4294967296 ∧ 0 ≤ d.x.ad ∧ d.x.ad < 4294967296) : Calls Tryz.prog 11 #[v] w fun e w' => e = .returned (.bool (accB l)) ∧ Gr w w' := by
  obtain ⟨a1, c1, rfl, hlen, hc1⟩ := h.get
  have HC1 := Lib.hid hc1
  have HR := Lib.hid (fun k (c : k < l.length) => hr _ (List.getElem_mem c))
  clear h hc1 hr
  go_enter Tryz.func11, Tryz.ntmps11
  go_wp2_with fail
  go_loopw [6, 3] (fun i _ wr => ∃ k : Nat, i = .int .i64 k ∧ k ≤ l.length ∧ Hid (Gr w wr) ∧ Hid (∀ m, (hm : m < l.length) → m < k → chk26 l[m].x = 0)) (fun i _ _ => l.length - (intOf i).toNat)
  case atStart => exact ⟨0, rfl, Nat.zero_le _, Lib.hid (Gr.refl _), Lib.hid (fun m _ hm => absurd hm (by omega))⟩
  case round =>
    obtain ⟨k, rfl, hk, GG, NO⟩ := hrel
    by_cases c : k < l.length
    · obtain ⟨b1, o1, rfl, hb1, hcc1⟩ := HC1.out (by omega)
      obtain ⟨⟨d0, d1, d2, d3, d4⟩, ⟨d5, d6, d7, d8, d9⟩, ⟨d10, d11, d12, d13, d14⟩⟩ := (hcc1 k c).below GG.out.b hb1
      have KC := Lib.hid c
      have i0 : (0 : Int) ≤ (k : Int) := by omega
      have i1 : (k : Int) < (l.length : Int) := by omega
      have s3 : ((k : Int)).toNat = k := by omega
      have RR := Lib.hid (HR.out k c)
      have CK := Lib.hid (check26_calls l[k].x wr RR.out.1 RR.out.2.1 RR.out.2.2.1 RR.out.2.2.2)
      have YES : Hid (chk26 l[k].x ≠ 0 → accB l = false) := Lib.hid (fun e => by
        unfold accB
        rw [List.all_eq_false]
        exact ⟨l[k], List.getElem_mem c, by simp [e]⟩)
      have NXT : Hid (chk26 l[k].x = 0 → ∀ m, (hm : m < l.length) → m < k + 1 → chk26 l[m].x = 0) := Lib.hid (fun e m hm h => by
        rcases Nat.lt_or_ge m k with h' | h'
        · exact NO.out m hm h'
        · obtain rfl : m = k := by omega
          exact e)
      clear hcc1 NO RR
      generalize l[k] = x at *
      clear c
      obtain ⟨⟨kind, pa, pl, ad, area, cost, prio, hel, dead, up, dr, bdr, el, nh, na, nn, nc⟩, nb⟩ := x
      simp only [ifcE] at d0 d1 d2 d3 d4 d5 d6 d7 d8 d9 CK YES NXT
      clear d9 d10 d11 d12 d13 d14
      generalize chk26 ⟨kind, pa, pl, ad, area, cost, prio, hel, dead, up, dr, bdr, el, nh, na, nn, nc⟩ = cv at *
      by_cases q : cv = 0
      · have q' : (cv != 0) = false := by simpa using q
        have N := Lib.hid (NXT.out q)
        clear YES NXT q
        go_wp2_with fail
        refine CK.out.mono ?_
        rintro e w1 ⟨rfl, G1⟩
        have G2 := Lib.hid (GG.out.trans G1)
        go_wp2_with fail
        go_roundw
        case rel => exact ⟨k + 1, by go_num, KC.out, G2, N⟩
        case measure => simp [intOf]; have := KC.out; omega
      · have q' : (cv != 0) = true := by simpa using q
        have Y := Lib.hid (YES.out q)
        clear YES NXT q
        go_wp2_with fail
        refine CK.out.mono ?_
        rintro e w1 ⟨rfl, G1⟩
        have G2 := Lib.hid (GG.out.trans G1)
        go_wp2_with fail
        go_returns
        exact ⟨by rw [Y.out]; rfl, G2.out⟩
    · have E : Hid (accB l = true) := Lib.hid (by
        unfold accB
        rw [List.all_eq_true]
        intro x hx
        obtain ⟨i, hi, rfl⟩ := List.getElem_of_mem hx
        exact decide_eq_true (NO.out i hi (by omega)))
      clear NO
      go_wp2_with fail
      go_ret
      exact ⟨by rw [E.out]; rfl, GG.out⟩

end Go.Proofs.YtddageahmgaigaaGreat
