/-
  inter.Routes: what its second loop carries.
-/
/-
  inter.Routes walked.
-/
import Derived.Test.YtogdconliofblaaGreatOfw
import Derived.Test.YtogdconliofblaaGreatSrr
import Derived.Test.YtogdconliofblaaGreatApo
import Derived.Deep.DeepCutAuto
import Derived.Laws.EntriesVeiled
namespace Go.Proofs.YtogdconliofblaaGreat
open Go.RowKit

abbrev ORange (wr : World) (mb rb n : Nat) (f : Ls.Pfx → Option OfH) (left : Ls.Pfx → Bool) (cnt : Nat) : Prop := RangeF Tryz.prog 55 pfxOk pfxLit ofV wr mb rb n f left cnt

def orH (area : Int) (p : Ls.Pfx) (o : OfH) : RtH := ⟨⟨p, 4, area, o.cost, false, 0, 0, o.ha, o.hn, o.hc⟩, o.hops⟩
def orP (area : Int) (p : Ls.Pfx) (o : Of) : Rp := ⟨p, 4, area, o.cost, false, 0, 0, o.hops⟩

/-- Wb: the world at the start of the loop -/
structure OutO (Wb : World) (area : Int) (mb rb n : Nat) (f : Ls.Pfx → Option OfH) (left : Ls.Pfx → Bool) (cnt : Nat) (out : List RtH) (v : Value) (wr : World) : Prop where
  rng : ORange wr mb rb n f left cnt
  own : RtsOwn Wb.heap.size wr v (out.map RtH.rt)
  gr : Wb.grownBy wr (some rb)
  mem : ∀ x, x ∈ out ↔ ∃ p o, pfxOk p ∧ left p = false ∧ f p = some o ∧ x = orH area p o
  nd : (out.map fun x => x.rt.pfx).Nodup
  len : out.length + cnt ≤ n
  lo : rb < Wb.heap.size ∧ mb < Wb.heap.size

theorem OutO.own1 {Wb : World} {area : Int} {mb rb n : Nat} {f : Ls.Pfx → Option OfH} {left : Ls.Pfx → Bool} {cnt : Nat} {out : List RtH} {v : Value} {wr w1 w3 : World} (R : OutO Wb area mb rb n f left cnt out v wr) (hg1 : wr.grownBy w1 (some rb)) (hb : Below w1.heap.size w1 w3) :
    RtsOwn Wb.heap.size w3 v (out.map RtH.rt) := by
  have h1 := R.own
  have lo := R.lo.1
  refine (World.ownsRow.kept (World.ownsRow.kept h1 hg1 ?_) (grown_of_below hb none) ?_)
  · cases hv : v.ownBlock with
    | none => exact .inl rfl
    | some j => right; intro e; have h2 := (World.ownsRow.lt h1 j hv).1; simp only [Option.some.injEq] at e; omega
  · cases v.ownBlock <;> simp

theorem OutO.step {Wb : World} {area : Int} {mb rb n : Nat} {f : Ls.Pfx → Option OfH} {left : Ls.Pfx → Bool} {cnt cnt' : Nat} {out : List RtH} {v v' : Value} {wr w1 w3 w4 : World} (R : OutO Wb area mb rb n f left cnt out v wr)
    {p : Ls.Pfx} {x : OfH} (hp : pfxOk p) (hl : left p = true) (hx : f p = some x) (h1 : ORange w1 mb rb n f (fun z => left z && !decide (z = p)) cnt') (hc : cnt' < cnt) (hg1 : wr.grownBy w1 (some rb)) (hb : Below w1.heap.size w1 w3)
    (own' : w4.ownsRow Wb.heap.size 57 9 v' ((out.map RtH.rt).length + 1) (((out.map RtH.rt).map rtE).flatten ++ rtE (orH area p x).rt)) (hg4 : w3.grownBy w4 v.ownBlock) :
    OutO Wb area mb rb n f (fun z => left z && !decide (z = p)) cnt' (out ++ [orH area p x]) v' w4 := by
  have hown : ∀ j, v.ownBlock = some j → Wb.heap.size ≤ j := fun j hj => (World.ownsRow.lt R.own j hj).1
  have lo := R.lo
  refine ⟨?_, ?_, ?_, fun y => ?_, ?_, ?_, lo⟩
  · exact (h1.grow hb).kept hg4 (fun e => by have := hown mb e.symm; omega) (fun e => by have := hown rb e.symm; omega)
  · unfold RtsOwn
    have e : ((out ++ [orH area p x]).map RtH.rt).length = (out.map RtH.rt).length + 1 := by simp
    have e2 : (((out ++ [orH area p x]).map RtH.rt).map rtE).flatten = ((out.map RtH.rt).map rtE).flatten ++ rtE (orH area p x).rt := by simp
    rw [e, e2]; exact own'
  · have g1 : Wb.grownBy w1 (some rb) := R.gr.andThen hg1 (fun j hj => .inr hj.symm.symm)
    have g3 : Wb.grownBy w3 (some rb) := g1.andThen (grown_of_below hb none) (fun j hj => by cases hj)
    exact g3.andThen hg4 (fun j hj => .inl (hown j hj))
  · rw [List.mem_append, R.mem, List.mem_singleton]
    constructor
    · rintro (⟨q, o, hq, hlq, hfq, rfl⟩ | rfl)
      · exact ⟨q, o, hq, by simp [hlq], hfq, rfl⟩
      · exact ⟨p, x, hp, by simp, hx, rfl⟩
    · rintro ⟨q, o, hq, hlq, hfq, rfl⟩
      by_cases e : q = p
      · subst e; right; rw [hx] at hfq; cases hfq; rfl
      · left; exact ⟨q, o, hq, by simpa [e] using hlq, hfq, rfl⟩
  · rw [List.map_append, List.nodup_append]
    refine ⟨R.nd, by simp, fun a ha b hb' => ?_⟩
    obtain ⟨y, hy, rfl⟩ := List.mem_map.1 ha
    obtain ⟨q, o, hq, hlq, hfq, rfl⟩ := (R.mem y).1 hy
    simp only [List.map_cons, List.map_nil, List.mem_singleton] at hb'
    subst hb'
    show q ≠ _
    rintro rfl
    rw [hl] at hlq; cases hlq
  · have := R.len; rw [List.length_append, List.length_singleton]; omega

theorem ORange.noCell {wr : World} {mb rb n : Nat} {f : Ls.Pfx → Option OfH} {left : Ls.Pfx → Bool} {cnt : Nat} (h : ORange wr mb rb n f left cnt) (o : Nat) (u : Value) : wr.cell? ⟨rb, o, none⟩ ≠ some u := by
  obtain ⟨D, lf, ⟨es, clock, since, seen, c0, _, _, _, _, hr, _⟩, _⟩ := h
  simp [World.cell?, hr]

theorem OutO.start {w0 : World} {area : Int} {mb rb n cnt : Nat} {f : Ls.Pfx → Option OfH} (hrg : ORange w0 mb rb n f (fun x => (f x).isSome) cnt) (hc : cnt ≤ n) : OutO w0 area mb rb n f (fun x => (f x).isSome) cnt [] (.slice none 0 0) w0 := by
  refine ⟨hrg, World.ownsRow_nil _ _ _ _, ⟨rfl, rfl, rfl, Nat.le_refl _, fun _ _ _ => rfl⟩, fun x => ⟨fun h => by simp at h, fun ⟨p, o, _, h1, h2, _⟩ => by rw [h2] at h1; cases h1⟩, by simp, by simpa using hc, hrg.lt⟩

/-- the routes, in order of their prefixes, each as g tells it -/
def OrPost (w : World) (area : Int) (g : Ls.Pfx → Option Of) (e : Ending) (w' : World) : Prop :=
  ∃ v l, e = .returned v ∧ RoutesAt w' v l ∧ Below w.heap.size w w' ∧ ((l.map RtH.pure).Pairwise fun a b => Ls.pfxLt a.pfx b.pfx = true) ∧ ∀ r, r ∈ l.map RtH.pure ↔ pfxOk r.pfx ∧ ∃ o, g r.pfx = some o ∧ r = orP area r.pfx o

/-- behind the sort -/
theorem OutO.post {w Wb : World} {area : Int} {mb rb n : Nat} {f : Ls.Pfx → Option OfH} {g : Ls.Pfx → Option Of} {left : Ls.Pfx → Bool} {cnt : Nat} {out : List RtH} {v : Value} {wr w' : World} {l' : List Rt} (R : OutO Wb area mb rb n f left cnt out v wr)
    (hl : ∀ p, pfxOk p → left p = false) (hg : ∀ p, (f p).map OfH.pure = g p) (hh : ∀ p x, f p = some x → HopsAt Wb x.hv x.hops) (hi : ∀ o u, Wb.cell? ⟨rb, o, none⟩ ≠ some u) (hw : Below w.heap.size w Wb) (hrb : w.heap.size ≤ rb)
    (P : l'.Perm (out.map RtH.rt)) (U : l'.Pairwise fun a b => Ls.pfxLt b.pfx a.pfx = false) (O : RtsOwn Wb.heap.size w' v l') (B : Below Wb.heap.size wr w') : OrPost w area g (.returned v) w' := by
  have hfx : ∀ r ∈ l', ∃ x, f r.pfx = some x ∧ (orH area r.pfx x).rt = r ∧ orH area r.pfx x ∈ out ∧ pfxOk r.pfx := by
    intro r hr
    obtain ⟨y, hy, rfl⟩ := List.mem_map.1 (P.mem_iff.1 hr)
    obtain ⟨p, o, h1, h2, h3, rfl⟩ := (R.mem y).1 hy
    exact ⟨o, h3, rfl, hy, h1⟩
  have G6 : Wb.grownBy w' (some rb) := ⟨B.os.trans R.gr.os, B.tape.trans R.gr.tape, B.output.trans R.gr.output, Nat.le_trans R.gr.size B.size, fun i hi hne => (B.block i hi).trans (R.gr.block i hi hne)⟩
  generalize hG : (fun r : Rt => ((f r.pfx).map (orH area r.pfx)).getD default) = G
  have hGx : ∀ r x, f r.pfx = some x → G r = orH area r.pfx x := by
    intro r x h; rw [← hG]; simp only [h]; rfl
  have hmapl : (l'.map G).map RtH.rt = l' := by
    rw [List.map_map]
    conv => rhs; rw [← List.map_id l']
    refine List.map_congr_left fun r hr => ?_
    obtain ⟨x, h1, h2, _⟩ := hfx r hr
    show (G r).rt = r
    rw [hGx r x h1]; exact h2
  refine ⟨v, l'.map G, rfl, ⟨?_, fun x hx => ?_⟩, ?_, ?_, fun r => ?_⟩
  · have e : (l'.map G).map (fun x => rtE x.rt) = l'.map rtE := by
      conv => rhs; rw [← hmapl]
      rw [List.map_map, List.map_map, List.map_map]; rfl
    rw [e]
    exact SlV.of_own (rtE_len l') (by simpa [RtsOwn] using O)
  · obtain ⟨r, hr, rfl⟩ := List.mem_map.1 hx
    obtain ⟨x, h1, h2, _⟩ := hfx r hr
    rw [hGx r x h1]
    exact (hh _ x h1).grown hi G6
  · exact hw.grown G6 hw.size (fun j hj => by cases hj; exact hrb)
  · rw [List.pairwise_map, List.pairwise_map]
    have nd : (l'.map Rt.pfx).Nodup := by
      have p2 := P.map Rt.pfx
      rw [List.map_map] at p2
      exact (p2.nodup_iff).2 R.nd
    have := (List.pairwise_map.1 nd).and U
    refine List.Pairwise.imp_of_mem ?_ this
    intro a b ha hb ⟨h1, h2⟩
    obtain ⟨x, hx1, hx2, _⟩ := hfx a ha
    obtain ⟨y, hy1, hy2, _⟩ := hfx b hb
    rw [hGx a x hx1, hGx b y hy1]
    show Ls.pfxLt a.pfx b.pfx = true
    cases c : Ls.pfxLt a.pfx b.pfx with
    | true => rfl
    | false => exact absurd (Ls.pfxLin.tot _ _ c h2) h1
  · constructor
    · intro hr
      obtain ⟨y, hy, rfl⟩ := List.mem_map.1 hr
      obtain ⟨q, hq, rfl⟩ := List.mem_map.1 hy
      obtain ⟨x, hx1, hx2, _, hok⟩ := hfx q hq
      rw [hGx q x hx1]
      refine ⟨hok, x.pure, ?_, rfl⟩
      show g q.pfx = some x.pure
      rw [← hg, hx1]; rfl
    · rintro ⟨hok, o, hr, e⟩
      rw [← hg] at hr
      obtain ⟨x, hx, rfl⟩ := Option.map_eq_some_iff.1 hr
      have hm : orH area r.pfx x ∈ out := (R.mem _).2 ⟨_, _, hok, hl _ hok, hx, rfl⟩
      have hml : (orH area r.pfx x).rt ∈ l' := P.mem_iff.2 (List.mem_map.2 ⟨_, hm, rfl⟩)
      refine List.mem_map.2 ⟨orH area r.pfx x, List.mem_map.2 ⟨_, hml, hGx _ x hx⟩, ?_⟩
      rw [e]; rfl

end Go.Proofs.YtogdconliofblaaGreat

namespace Go.Proofs.YtogdconliofblaaGreat
open Go.RowKit

set_option maxHeartbeats 16000000 in
set_option maxRecDepth 100000 in
theorem routes_calls (w : World) (area router : Int) (reach : List Rch) (db : List Lsa) (vd vr : Value) (hd : LsasAt w vd db) (hr : ReachAt w vr reach)
    (okl : ∀ x ∈ db, OkL x) (len : ∀ x ∈ db, x.typ = 3 → 0 ≤ x.len ∧ x.len ≤ 32) (cost : ∀ x ∈ db, x.typ = 3 → 0 ≤ x.cost ∧ x.cost ≤ 16777216) (rc : ∀ y ∈ reach, costFine y.cost) (hN : (db.length + 2) * hopSum reach * 16 ≤ 140737488355328) (n1 : db.length ≤ 2000) :
    Calls Tryz.prog 16 #[.agg #[.int .u32 area, vd], .int .u32 router, vr] w (OrPost w area (ofK area router reach db db.length)) := by
  obtain ⟨i0, hi0, hz0, hz1, hz2⟩ := info_parts Tryz.infoRt
  have HI0 := Lib.hid hi0
  have HZ0 := Lib.hid hz0
  have HZ1 := Lib.hid hz1
  have HZ2 := Lib.hid hz2
  have hmm := @run_makeMap Tryz.prog
  have HN1 := Lib.hid n1
  obtain ⟨W1, hW1⟩ : ∃ W1, w.alloc (.cells #[.int .u32 area, vd] 36) = W1 := ⟨_, rfl⟩
  have B1 : Below w.heap.size w W1 := by rw [← hW1]; exact (Below.refl _ _).alloc (Nat.le_refl _) _
  have b1 : W1.heap[w.heap.size]? = some (.cells #[.int .u32 area, vd] 36 (0, 0)) := by rw [← hW1]; exact alloc_new w _
  have z1 : W1.heap.size = w.heap.size + 1 := by rw [← hW1]; simp
  obtain ⟨W2, hW2⟩ : ∃ W2, W1.alloc (.map #[] 0) = W2 := ⟨_, rfl⟩
  have B2 : Below W1.heap.size W1 W2 := by rw [← hW2]; exact (Below.refl _ _).alloc (Nat.le_refl _) _
  have z2 : W2.heap.size = w.heap.size + 2 := by rw [← hW2]; simp; omega
  have M2 : MapF Tryz.prog 55 pfxOk pfxLit ofV W2 W1.heap.size 0 (fun _ => none) := by rw [← hW2]; exact MapF.made W1
  have T2 : ObAt 55 pfxOk pfxLit W2 W1.heap.size 0 (fun _ => none) (fun _ => none) := ⟨M2, fun _ => rfl, fun p x h => by cases h⟩
  obtain ⟨W3, hW3⟩ : ∃ W3, W2.alloc (.cells #[.map (some W1.heap.size)] 94) = W3 := ⟨_, rfl⟩
  have B3 : Below W2.heap.size W2 W3 := by rw [← hW3]; exact (Below.refl _ _).alloc (Nat.le_refl _) _
  have b3 : W3.heap[W2.heap.size]? = some (.cells #[.map (some W1.heap.size)] 94 (0, 0)) := by rw [← hW3]; exact alloc_new _ _
  have z3 : W3.heap.size = w.heap.size + 3 := by rw [← hW3]; simp; omega
  obtain ⟨W4, hW4⟩ : ∃ W4, W3.alloc (.cells #[addV W1.heap.size] 95) = W4 := ⟨_, rfl⟩
  have B4 : Below W3.heap.size W3 W4 := by rw [← hW4]; exact (Below.refl _ _).alloc (Nat.le_refl _) _
  have b4 : W4.heap[W3.heap.size]? = some (.cells #[addV W1.heap.size] 95 (0, 0)) := by rw [← hW4]; exact alloc_new _ _
  have B24 := B3.trans (B4.mono B3.size)
  have B14 := B2.trans (B24.mono B2.size)
  have B04 := B1.trans (B14.mono B1.size)
  have a4 := (B14.block _ (blk_lt b1)).trans b1
  have t4 := (B4.block _ (blk_lt b3)).trans b3
  have OC := Lib.hid (offers_calls W4 area router reach db vd vr (hd.below B04) (hr.below B04) W1.heap.size W3.heap.size 0 (by omega) ⟨_, T2.grow B24⟩ b4 okl len cost rc hN n1 (by omega))
  have x0 := blk_cell (i := 0) b1 rfl
  have x1 := blk_cell (i := 1) b1 rfl
  have x30 := blk_cell (i := 0) b3 rfl
  have y0 := blk_cell (i := 0) a4 rfl
  have y1 := blk_cell (i := 1) a4 rfl
  have HW1 := Lib.hid hW1
  have HW2 := Lib.hid hW2
  have HW3 := Lib.hid hW3
  simp only [addV] at hW4
  have HW4 := Lib.hid hW4
  have HA4 := Lib.hid a4
  have HT4 := Lib.hid t4
  have HB4 := Lib.hid B04
  have HZ := Lib.hid (⟨z1, z2, z3⟩ : W1.heap.size = w.heap.size + 1 ∧ W2.heap.size = w.heap.size + 2 ∧ W3.heap.size = w.heap.size + 3)
  have z2' : W2.heap.size = W1.heap.size + 1 := by omega
  rw [z2'] at x30
  clear hi0 hz0 hz1 hz2 n1 B1 b1 B2 M2 T2 B3 b3 B4 b4 B24 B14 B04 a4 t4 hW1 hW2 hW3 hW4 hd hr okl len cost rc hN z1 z2 z3
  go_enter Tryz.func16, Tryz.ntmps16
  go_upto_region 1 with fail
  rw [HW1.out]
  go_upto_region 2 with fail
  rw [HW2.out, HW3.out]
  go_upto_region 3 with fail
  rw [HW4.out]
  clear x0 x1 x30
  go_wp2_with fail
  refine OC.out.mono ?_
  rintro e w5 ⟨rfl, ⟨f, T5⟩, G5⟩
  rw [Nat.zero_add] at T5
  have hz := HZ.out
  have BX5 := Lib.hid ((G5.block _ (blk_lt HA4.out) (by simp; omega)).trans HA4.out)
  have BT5 := (G5.block _ (blk_lt HT4.out) (by simp; omega)).trans HT4.out
  rw [z2'] at BT5
  have MB5 := Lib.hid T5.map
  have VL := Lib.hid T5.val
  have BW5 : Hid (Below w.heap.size w w5) := Lib.hid (HB4.out.grown G5 HB4.out.size (fun j hj => by cases hj; omega))
  have HOP5 := Lib.hid T5.hops
  have t0 := blk_cell (i := 0) BT5 rfl
  have NE := Lib.hid (show w.heap.size < W1.heap.size by omega)
  clear hz G5 T5 BT5 y0 y1 OC HW1 HW2 HW3 HW4 HA4 HT4 HB4 HZ z2'
  go_wp2_with (first
    | (at_range; refine wpList_rangeF _ rfl _ 92 rfl 98 Tryz.pfxKey Tryz.underlying92 W1.heap.size db.length f rfl MB5.out ?_; intro w0 cnt0 hcnt0 hrg0 hg0 hs0))
  have B0 : Hid (Below w5.heap.size w5 w0) := Lib.hid ⟨hg0.os, hg0.tape, hg0.output, hg0.size, fun i hi => hg0.block i hi (by simp)⟩
  have O0 := Lib.hid (OutO.start (area := area) hrg0 hcnt0)
  have HH : Hid (∀ p x, f p = some x → HopsAt w0 x.hv x.hops) := Lib.hid (fun p x h => (HOP5.out p x h).below B0.out)
  have NC := Lib.hid (ORange.noCell hrg0)
  have BW0 := Lib.hid (BW5.out.trans (B0.out.mono BW5.out.size))
  have BX0 := Lib.hid ((B0.out.block _ (blk_lt BX5.out)).trans BX5.out)
  have RLO := Lib.hid (show w.heap.size ≤ w5.heap.size from BW5.out.size)
  have RNE := Lib.hid (show w.heap.size < w5.heap.size from blk_lt BX5.out)
  clear hrg0 hg0 hs0 hcnt0 MB5 B0 BX5 HOP5 BW5 t0
  go_frame
  generalize w5.heap.size = rb at *
  generalize W1.heap.size = mb at *
  go_loopw [9] (fun v wq => ∃ (left : Ls.Pfx → Bool) (cnt : Nat) (out : List RtH), Hid (OutO w0 area mb rb db.length f left cnt out v wq)) (fun _ wq => wq.rangeLeft mb rb)
  case atStart => exact ⟨_, _, _, O0⟩
  case round =>
    clear O0
    obtain ⟨left, cnt, out, QQ⟩ := hrel
    obtain ⟨vA, hvA⟩ : ∃ z, z = u9 := ⟨_, rfl⟩
    subst hvA
    go_wp2_with (at_next; refine wpList_nextF _ rfl _ rfl Tryz.pfxKey mb rb db.length f left cnt rfl QQ.out.rng ?_ ?_)
    · intro hl0
      have HL := Lib.hid hl0
      clear hl0
      have SC := Lib.hid (sort_rts w0.heap.size wr vA (out.map RtH.rt) QQ.out.own (by have := QQ.out.len; have := HN1.out; rw [List.length_map]; omega))
      go_wp2_with fail
      refine SC.out.mono ?_
      rintro e w6 ⟨rfl, l', P, U, O, B⟩
      have PO := Lib.hid (OutO.post (w := w) (g := ofK area router reach db db.length) QQ.out HL.out VL.out HH.out NC.out BW0.out RLO.out P U O B)
      clear P U O B SC
      go_wp2_with fail
      go_ret
      exact PO.out
    · intro p y w1 cnt1 hok1 hl1 hf1 hrg1 hlt hg1 hs1 hen
      have bw1 : w1.heap[w.heap.size]? = some (.cells #[.int .u32 area, vd] 36 (0, 0)) :=
        (hg1.block _ (Nat.lt_of_lt_of_le (blk_lt BX0.out) QQ.out.gr.size) (by have := RNE.out; simp; omega)).trans ((QQ.out.gr.block _ (blk_lt BX0.out) (by have := RNE.out; simp; omega)).trans BX0.out)
      have QL := Lib.hid QQ.out.rng.left_eq
      have LT := Lib.hid hlt
      have LEN := Lib.hid QQ.out.len
      obtain ⟨pa, pl⟩ := p
      obtain ⟨oc, oa, on, ocp, oh⟩ := y
      simp only [ofV, ofE, pfxV] at hen ⊢
      obtain ⟨WB, hWB⟩ : ∃ WB, (w1.alloc (.cells #[.int .u32 pa, .int .i64 pl] 55)).alloc (.cells #[.int .i64 oc, .slice oa on ocp] 98) = WB := ⟨_, rfl⟩
      have BB : Below w1.heap.size w1 WB := by rw [← hWB]; exact ((Below.refl _ _).alloc (Nat.le_refl _) _).alloc (by simp) _
      have bp : WB.heap[w1.heap.size]? = some (.cells #[.int .u32 pa, .int .i64 pl] 55 (0, 0)) := by rw [← hWB]; exact (alloc_get _ _ _ (by simp)).trans (alloc_new w1 _)
      have bo : WB.heap[w1.heap.size + 1]? = some (.cells #[.int .i64 oc, .slice oa on ocp] 98 (0, 0)) := by rw [← hWB]; exact blk_new2 w1 _ _
      have y0 : WB.cell? ⟨w.heap.size, 0, none⟩ = some (.int .u32 area) := blk_cell ((BB.block _ (blk_lt bw1)).trans bw1) rfl
      have z0 := blk_cell (i := 0) bp rfl
      have z1 := blk_cell (i := 1) bp rfl
      have o0 := blk_cell (i := 0) bo rfl
      have o1 := blk_cell (i := 1) bo rfl
      obtain ⟨W3, hW3⟩ : ∃ W3, WB.alloc (.cells #[.int .u32 pa, .int .i64 pl, .int .i64 4, .int .u32 area, .int .i64 oc, .bool false, .int .i64 0, .int .i64 0, .slice oa on ocp] 57) = W3 := ⟨_, rfl⟩
      have B3 : Below WB.heap.size WB W3 := by rw [← hW3]; exact (Below.refl _ _).alloc (Nat.le_refl _) _
      have B13 := BB.trans (B3.mono BB.size)
      have OWN := Lib.hid (QQ.out.own1 hg1 B13)
      have BK : Hid (W3.heap[WB.heap.size]? = some (.cells (List.toArray [.int .u32 pa, .int .i64 pl, .int .i64 4, .int .u32 area, .int .i64 oc, .bool false, .int .i64 0, .int .i64 0, .slice oa on ocp]) 57 (0, 0))) := Lib.hid (by rw [← hW3]; exact alloc_new _ _)
      have ONE : Hid (∀ u ∈ ([.int .u32 pa, .int .i64 pl, .int .i64 4, .int .u32 area, .int .i64 oc, .bool false, .int .i64 0, .int .i64 0, .slice oa on ocp] : List Value), u.oneCell' = true) := Lib.hid (fun u hu => rtE_one (orH area ⟨pa, pl⟩ ⟨oc, oa, on, ocp, oh⟩).rt u hu)
      have K1 : Hid ((out.map RtH.rt).length + 1 ≤ maxLen) := Lib.hid (by have h1 := LEN.out; have h2 := HN1.out; rw [List.length_map]; unfold maxLen; omega)
      have K2 : Hid (((out.map RtH.rt).length + 1) * 88 ≤ 140737488355328) := Lib.hid (by have h1 := LEN.out; have h2 := HN1.out; rw [List.length_map]; omega)
      have BS : Hid (w0.heap.size ≤ W3.heap.size) := Lib.hid (by have h1 := QQ.out.gr.size; have h2 := hg1.size; have h3 := B13.size; omega)
      have STEP := Lib.hid (fun v' w4 own' hg4 => QQ.out.step (p := ⟨pa, pl⟩) (x := ⟨oc, oa, on, ocp, oh⟩) (w4 := w4) (v' := v') hok1 hl1 hf1 hrg1 hlt hg1 B13 own' hg4)
      have HWB := Lib.hid hWB
      have HW3 := Lib.hid hW3
      clear bw1 BB bp bo hWB hW3 B3 B13 QQ hok1 hl1 hf1 hrg1 hlt hg1 hs1
      go_upto_region 8 with fail
      rw [HWB.out]
      go_wp2_with (at_builtin; rw [HW3.out]; refine wpList_append_one rfl (.tmp 29) (.tmp 38) 27 rfl w0.heap.size 57 i0 (.agg #[.int .u32 0, .int .i64 0, .int .i64 0, .int .u32 0, .int .i64 0, .bool false, .int .i64 0, .int .i64 0, .slice none 0 0]) 9 88 Tryz.underlying27 ?g1 ?g2 ?g3 ?g4 ?g5 ?g6 vA (out.map RtH.rt).length _ ?g7 OWN.out WB.heap.size [.int .u32 pa, .int .i64 pl, .int .i64 4, .int .u32 area, .int .i64 oc, .bool false, .int .i64 0, .int .i64 0, .slice oa on ocp] 57 ?g8 BK.out ?g9 ONE.out K1.out K2.out BS.out ?_; (case g1 => exact HI0.out); (case g2 => exact HZ0.out); (case g3 => exact HZ1.out); (case g4 => exact HZ2.out); (case g5 => exact rfl); (case g6 => decide); (case g7 => exact rfl); (case g8 => exact rfl); (case g9 => exact rfl); intro v' w4 own' hg4 d; have NX := Lib.hid (STEP.out v' w4 own' hg4); clear own' hg4 d)
      go_roundw
      case rel => exact ⟨_, _, _, NX⟩
      case measure => rw [NX.out.rng.left_eq, QL.out]; exact LT.out

end Go.Proofs.YtogdconliofblaaGreat
