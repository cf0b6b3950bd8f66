/-
  routingref32.Prefixes: the prefixes of offers, in order, each once.
-/
import Derived.Test.YtogdconliofblaaGreatFir
import Derived.Test.YtogdconliofblaaGreatBs3
import Derived.Test.YtogdconliofblaaGreatAdd
import Derived.Test.YtogdconliofblaaGreatCmr
import Derived.Deep.DeepCutAuto
namespace Go.Proofs.YtogdconliofblaaGreat
open Go.RowKit

theorem Tryz.infoPfx : (Tryz.prog.info? 55).map (fun i => (i.zero, i.size, i.bytes)) = some (some (.agg #[.int .u32 0, .int .i64 0]), 2, 16) := by kernel_rfl

def PfxsAt (w : World) (v : Value) (l : List Ls.Pfx) : Prop := SlV 2 w v (l.map pfxE)
theorem PfxsAt.below {w w' : World} {v : Value} {l : List Ls.Pfx} (h : PfxsAt w v l) (hb : Below w.heap.size w w') : PfxsAt w' v l := SlV.below h hb
theorem PfxsAt.get {w : World} {v : Value} {l : List Ls.Pfx} (h : PfxsAt w v l) : ∃ a cap, v = .slice a l.length cap ∧ l.length ≤ 9223372036854775807 ∧ (0 < l.length → ∃ b off, a = some ⟨b, off, none⟩ ∧ b < w.heap.size ∧ ∀ i (h : i < l.length),
    w.cell? ⟨b, off + i * 2, none⟩ = some (.int .u32 l[i].addr) ∧ w.cell? ⟨b, off + i * 2 + 1, none⟩ = some (.int .i64 l[i].len)) := by
  obtain ⟨a, cap, h0, h1, h2, hn, h3⟩ := h
  simp only [List.length_map] at h0 h1 h3
  refine ⟨a, cap, h0, by unfold maxLen at h2; omega, fun hl => ?_⟩
  obtain ⟨b, off, e, h4, h5⟩ := h3 hl
  refine ⟨b, off, e, h4, fun i hi => ?_⟩
  have := h5 i (by simpa using hi)
  simp only [List.getElem_map, pfxE] at this
  exact ⟨this 0 _ rfl, this 1 _ rfl⟩

/-- an offer of no cost and no hops -/
def offE (p : Ls.Pfx) : List Value := [.int .u32 p.addr, .int .i64 p.len, .int .i64 0, .slice none 0 0]
def OffsAt (w : World) (v : Value) (l : List Ls.Pfx) : Prop := SlV 4 w v (l.map offE)
theorem OffsAt.get {w : World} {v : Value} {l : List Ls.Pfx} (h : OffsAt w v l) : ∃ a cap, v = .slice a l.length cap ∧ l.length ≤ 9223372036854775807 ∧ (0 < l.length → ∃ b off, a = some ⟨b, off, none⟩ ∧ b < w.heap.size ∧ ∀ i (h : i < l.length),
    w.cell? ⟨b, off + i * 4, none⟩ = some (.int .u32 l[i].addr) ∧ w.cell? ⟨b, off + i * 4 + 1, none⟩ = some (.int .i64 l[i].len)) := by
  obtain ⟨a, cap, h0, h1, h2, hn, h3⟩ := h
  simp only [List.length_map] at h0 h1 h3
  refine ⟨a, cap, h0, by unfold maxLen at h2; omega, fun hl => ?_⟩
  obtain ⟨b, off, e, h4, h5⟩ := h3 hl
  refine ⟨b, off, e, h4, fun i hi => ?_⟩
  have := h5 i (by simpa using hi)
  simp only [List.getElem_map, offE] at this
  exact ⟨this 0 _ rfl, this 1 _ rfl⟩

theorem pfxE_len (l : List Ls.Pfx) : ∀ c ∈ l.map pfxE, c.length = 2 := by
  intro c hc
  obtain ⟨h, _, rfl⟩ := List.mem_map.1 hc
  rfl
theorem pfxE_one (l : List Ls.Pfx) : ∀ c ∈ l.map pfxE, ∀ u ∈ c, u.oneCell' = true := by
  intro c hc u hu
  obtain ⟨h, _, rfl⟩ := List.mem_map.1 hc
  simp [pfxE] at hu
  rcases hu with rfl | rfl <;> rfl

def PfxOwn (base : Nat) (w : World) (v : Value) (l : List Ls.Pfx) : Prop := w.ownsRow base 55 2 v l.length (l.map pfxE).flatten
theorem PfxOwn.at {base : Nat} {w : World} {v : Value} {l : List Ls.Pfx} (h : PfxOwn base w v l) : PfxsAt w v l := SlV.of_own (pfxE_len l) (by simpa [PfxOwn] using h)
theorem PfxOwn.below {base : Nat} {w w' : World} {v : Value} {l : List Ls.Pfx} (h : PfxOwn base w v l) (hb : Below w.heap.size w w') : PfxOwn base w' v l :=
  World.ownsRow.kept (row := none) h ⟨hb.os, hb.tape, hb.output, hb.size, fun k hk _ => hb.block k hk⟩ (by cases v.ownBlock <;> simp)
theorem sl_one2 (x : Ls.Pfx) (w : World) : SlV 2 (w.alloc (.cells #[.int .u32 x.addr, .int .i64 x.len] 55)) (.slice (some ⟨w.heap.size, 0, none⟩) 1 1) [pfxE x] :=
  sl_one (vals := pfxE x)
theorem pfx_snoc {base : Nat} {W w3 w4 : World} {v v' : Value} {L : List Ls.Pfx} {x : Ls.Pfx} (hb : base ≤ W.heap.size) (own : PfxOwn base W v L) (h3 : Below W.heap.size W w3)
    (own' : w4.ownsRow base 55 2 v' (L.length + [pfxE x].length) ((L.map pfxE).flatten ++ [pfxE x].flatten)) (hg : w3.grownBy w4 v.ownBlock) : PfxOwn base w4 v' (L ++ [x]) ∧ Below base W w4 := by
  have hB3 : Below base W w3 := h3.mono hb
  refine ⟨?_, hB3.grown hg (Nat.le_trans hb h3.size) (fun k hk => (own.lt k hk).1)⟩
  unfold PfxOwn
  have e : (L ++ [x]).length = L.length + [pfxE x].length := by simp
  have e2 : ((L ++ [x]).map pfxE).flatten = (L.map pfxE).flatten ++ [pfxE x].flatten := by simp
  rw [e, e2]; exact own'

structure PadRel (base : Nat) (W0 : World) (l : List Ls.Pfx) (h : Ls.Pfx) (k : Nat) (done : Bool) (out : List Ls.Pfx) (v : Value) (wr : World) : Prop where
  own : PfxOwn base wr v out
  bel : Below base W0 wr
  hk : k ≤ l.length
  inv : AddInv Ls.pfxLt l h k done out

/-- behind i offers -/
structure PfRel (w : World) (offs : List Ls.Pfx) (i : Nat) (v : Value) (wr : World) : Prop where
  hi : i ≤ offs.length
  hp : PfxsAt wr v (Ls.adds Ls.pfxLt [] (offs.take i))
  bel : Below w.heap.size w wr
theorem PfRel.step {w : World} {offs : List Ls.Pfx} {i : Nat} {v : Value} {wr : World} (R : PfRel w offs i v wr) (c : i < offs.length) {v2 : Value} {w2 : World}
    (h : PfxsAt w2 v2 (Ls.add Ls.pfxLt (Ls.adds Ls.pfxLt [] (offs.take i)) offs[i])) (g : Below wr.heap.size wr w2) : PfRel w offs (i + 1) v2 w2 := by
  refine ⟨c, ?_, R.bel.trans (g.mono R.bel.size)⟩
  have e : Ls.adds Ls.pfxLt [] (offs.take (i + 1)) = Ls.add Ls.pfxLt (Ls.adds Ls.pfxLt [] (offs.take i)) offs[i] := by
    rw [List.take_succ_eq_append_getElem c]; unfold Ls.adds; rw [List.foldl_append]; rfl
  rw [e]; exact h

set_option maxHeartbeats 16000000 in
set_option maxRecDepth 100000 in
theorem prefixes_calls (w : World) (v : Value) (offs : List Ls.Pfx) (h : OffsAt w v offs) (hn : (offs.length + 2) * 16 ≤ 140737488355328) :
    Calls Tryz.prog 61 #[v] w fun e w' => ∃ v', e = .returned v' ∧ PfxsAt w' v' (Ls.adds Ls.pfxLt [] offs) ∧ Below w.heap.size w w' := by
  obtain ⟨i0, hi0, hz0, hz1, hz2⟩ := info_parts Tryz.infoPfx
  have HI0 := Lib.hid hi0
  have HZ0 := Lib.hid hz0
  have HZ1 := Lib.hid hz1
  have HZ2 := Lib.hid hz2
  obtain ⟨oad, ocap, rfl, hlen, hc⟩ := h.get
  have HOC := Lib.hid hc
  have HNO := Lib.hid hn
  have mixed : Tryz.prog.follows .mixedOrders = true := by kernel_rfl
  obtain ⟨WA, hWA⟩ : ∃ WA, w.alloc (.cells #[] 55) = WA := ⟨_, rfl⟩
  have OA : PfxOwn w.heap.size WA (.slice (some ⟨w.heap.size, 0, none⟩) 0 0) [] := by
    rw [← hWA]
    have := World.ownsRow_made (size := 2) (e := 55) (base := w.heap.size) w #[] 0 (by simp) (by unfold maxLen; omega) rfl
    simpa [PfxOwn] using this
  have R0 : Hid (PfRel w offs 0 (.slice (some ⟨w.heap.size, 0, none⟩) 0 0) WA) := Lib.hid ⟨Nat.zero_le _, OA.at, by rw [← hWA]; exact (Below.refl _ _).alloc (Nat.le_refl _) _⟩
  have HWA := Lib.hid hWA
  clear hi0 hz0 hz1 hz2 h hc hn hWA OA
  go_enter Tryz.func61, Tryz.ntmps61
  go_wp2_with fail
  rw [HWA.out]
  go_loopw [3, 4] (fun o ix wr => ∃ i : Nat, ix = .int .i64 i ∧ PfRel w offs i o wr) (fun _ ix _ => offs.length - (intOf ix).toNat)
  case atStart => exact ⟨0, rfl, R0.out⟩
  case round =>
    clear R0
    obtain ⟨i, rfl, R⟩ := hrel
    have hi := R.hi
    have RO := Lib.hid R
    clear R
    by_cases ci : i < offs.length
    · obtain ⟨ob, oo, rfl, hob, hoc⟩ := HOC.out (by omega)
      obtain ⟨p0, p1⟩ := hoc i ci
      have STEPO := Lib.hid (fun v2 w2 => RO.out.step ci (v2 := v2) (w2 := w2))
      have LL : (Ls.adds Ls.pfxLt [] (offs.take i)).length ≤ i := by
        have := Ls.adds_len (lt := Ls.pfxLt) (offs.take i) []
        simp only [List.length_nil, List.length_take] at this
        omega
      have HP := RO.out.hp
      obtain ⟨base, hbase⟩ : ∃ base, base = wr.heap.size := ⟨_, rfl⟩
      have hobb : ob < base := by have := RO.out.bel.size; omega
      obtain ⟨W, hW⟩ : ∃ W, wr.alloc (.cells #[] 55) = W := ⟨_, rfl⟩
      have BW : Below base wr W := by rw [← hW, hbase]; exact (Below.refl _ _).alloc (Nat.le_refl _) _
      have O0 : PfxOwn base W (.slice (some ⟨wr.heap.size, 0, none⟩) 0 0) [] := by
        rw [← hW, hbase]
        have := World.ownsRow_made (size := 2) (e := 55) (base := wr.heap.size) wr #[] 0 (by simp) (by unfold maxLen; omega) rfl
        simpa [PfxOwn] using this
      have p0 := (World.cell?_of_block (w := wr) (w' := W) (a := ⟨ob, oo + i * 4, none⟩) (BW.block ob hobb)).trans ((World.cell?_of_block (w := w) (w' := wr) (a := ⟨ob, oo + i * 4, none⟩) (RO.out.bel.block ob hob)).trans p0)
      have p1 := (World.cell?_of_block (w := wr) (w' := W) (a := ⟨ob, oo + i * 4 + 1, none⟩) (BW.block ob hobb)).trans ((World.cell?_of_block (w := w) (w' := wr) (a := ⟨ob, oo + i * 4 + 1, none⟩) (RO.out.bel.block ob hob)).trans p1)
      have HB0 := Lib.hid BW
      have HS : Hid (W.heap.size = base + 1) := Lib.hid (by rw [← hW, hbase]; simp)
      have HW := Lib.hid hW
      have HBA := Lib.hid hbase
      have RI0 : Hid (PadRel base W (Ls.adds Ls.pfxLt [] (offs.take i)) offs[i] 0 false [] (.slice (some ⟨wr.heap.size, 0, none⟩) 0 0) W) := Lib.hid ⟨O0, Below.refl _ _, Nat.zero_le _, AddInv.zero⟩
      have HN : Hid (((Ls.adds Ls.pfxLt [] (offs.take i)).length + 2) * 16 ≤ 140737488355328) := Lib.hid (by have := HNO.out; omega)
      have P0 := Lib.hid p0
      have P1 := Lib.hid p1
      have io0 : (0 : Int) ≤ (i : Int) := by omega
      have io1 : (i : Int) < (offs.length : Int) := by omega
      have io3 : ((i : Int)).toNat = i := by omega
      clear hoc LL BW O0 hW hbase p0 p1 RO
      generalize Ls.adds Ls.pfxLt [] (offs.take i) = l at *
      generalize offs[i] = g at *
      obtain ⟨ga, gl⟩ := g
      obtain ⟨ad, cap, ev, hll, hlc⟩ := HP.get
      subst ev
      have HC := Lib.hid hlc
      clear HP hlc
      obtain ⟨wo, ewo⟩ : ∃ x, x = wr := ⟨_, rfl⟩
      subst ewo
      simp only at P0 P1
      have P0W := Lib.hid P0.out
      have P1W := Lib.hid P1.out
      clear P0 P1
      go_wp2_with fail
      rw [HW.out]
      go_loopw [5, 6, 7] (fun o d ix wi => ∃ (k : Nat) (done : Bool) (out : List Ls.Pfx), d = .bool done ∧ ix = .int .i64 k ∧ PadRel base W l ⟨ga, gl⟩ k done out o wi) (fun _ _ ix _ => l.length - (intOf ix).toNat)
      case atStart => exact ⟨0, false, [], rfl, rfl, RI0.out⟩
      case round =>
        clear RI0
        obtain ⟨k, done, out, rfl, rfl, R⟩ := hrel
        have hk := R.hk
        have RR := Lib.hid R
        have HBW : Hid (base ≤ wr.heap.size) := Lib.hid (by have := R.bel.size; have := HS.out; omega)
        have LEN : Hid (out.length + 2 ≤ l.length + 3) := Lib.hid (by have := R.inv.2.2; omega)
        have upo : ∀ {j u}, W.cell? ⟨ob, j, none⟩ = some u → wr.cell? ⟨ob, j, none⟩ = some u := fun {j u} h => (World.cell?_of_block (w := W) (w' := wr) (a := ⟨ob, j, none⟩) (R.bel.block ob hobb)).trans h
        have p0 := upo P0W.out
        have p1 := upo P1W.out
        clear R upo
        by_cases c : k < l.length
        · obtain ⟨b, off, rfl, hb0, hcc⟩ := HC.out (by omega)
          have hbb : b < base := by have := HBA.out; omega
          obtain ⟨d0, d1⟩ := hcc k c
          have up : ∀ {j u}, wo.cell? ⟨b, j, none⟩ = some u → wr.cell? ⟨b, j, none⟩ = some u := fun {j u} h => (World.cell?_of_block (w := wo) (w' := wr) (a := ⟨b, j, none⟩) ((RR.out.bel.block b hbb).trans (HB0.out.block b hbb))).trans h
          have d0 := up d0
          have d1 := up d1
          have IA := Lib.hid (fun (e : done = true) => AddInv.a (e ▸ RR.out.inv) c)
          have IB := Lib.hid (fun (e : done = false) (e2 : l[k] = ⟨ga, gl⟩) => AddInv.b (e ▸ RR.out.inv) c e2)
          have IC := Lib.hid (fun (e : done = false) (e2 : ¬ l[k] = ⟨ga, gl⟩) (e3 : Ls.pfxLt ⟨ga, gl⟩ l[k] = true) => AddInv.c (e ▸ RR.out.inv) c e2 e3)
          have ID := Lib.hid (fun (e : done = false) (e2 : ¬ l[k] = ⟨ga, gl⟩) (e3 : Ls.pfxLt ⟨ga, gl⟩ l[k] = false) => AddInv.d (e ▸ RR.out.inv) c e2 e3)
          have LEN : Hid (out.length ≤ l.length) := Lib.hid (by have := RR.out.inv.2.2; omega)
          have i0' : (0 : Int) ≤ (k : Int) := by omega
          have i1' : (k : Int) < (l.length : Int) := by omega
          have k3' : ((k : Int)).toNat = k := by omega
          clear hcc up
          generalize l[k] = x at *
          obtain ⟨xa, xl⟩ := x
          simp only at d0 d1
          have EQ1 := fun W => eqPfx ⟨xa, xl⟩ ⟨ga, gl⟩ W
          simp only at EQ1
          have D0 := Lib.hid d0
          have D1 := Lib.hid d1
          have P0 := Lib.hid p0
          have P1 := Lib.hid p1
          have BC := Lib.hid (fun W => (less_calls ⟨ga, gl⟩ ⟨xa, xl⟩ W).mono fun _ _ h => (⟨h.1, h.2.grow⟩ : _ ∧ ∃ q os, _ = Go.Sort.grow (World.drewN W q) os))
          simp only at BC
          obtain ⟨VV, hVV⟩ : ∃ VV, VV = u5 := ⟨_, rfl⟩
          have HVV := Lib.hid hVV
          subst hVV
          cases done with
          | true =>
            have IN := Lib.hid (IA.out rfl)
            clear IA IB IC ID
            by_cases e : (⟨xa, xl⟩ : Ls.Pfx) = ⟨ga, gl⟩
            · have de : decide ((⟨xa, xl⟩ : Ls.Pfx) = ⟨ga, gl⟩) = true := by simpa using e
              rw [de] at EQ1
              clear de e
              go_wp2_with fail
              go_quiet (fail)
              generalize hW1 : wr.drewN _ = W1
              have GG : Hid (Gr wr W1) := Lib.hid (hW1 ▸ (Gr.refl _).drewN _)
              clear hW1
              clear d0 d1 p0 p1
              have d0 := bcell GG.out.b D0.out
              have d1 := bcell GG.out.b D1.out
              have p0 := bcell GG.out.b P0.out
              have p1 := bcell GG.out.b P1.out
              go_wp2_with fail
              go_quiet (fail)
              generalize hW2 : W1.drewN _ = W2
              have G2 : Hid (Gr W1 W2) := Lib.hid (hW2 ▸ (Gr.refl _).drewN _)
              clear hW2
              have GG : Hid (Gr wr W2) := Lib.hid (GG.out.trans G2.out)
              clear d0 d1 p0 p1
              have d0 := bcell GG.out.b D0.out
              have d1 := bcell GG.out.b D1.out
              have p0 := bcell GG.out.b P0.out
              have p1 := bcell GG.out.b P1.out
              have OW2 : Hid (PfxOwn base W2 VV out) := Lib.hid (RR.out.own.below GG.out.b)
              have BZ : Hid (base ≤ W2.heap.size) := Lib.hid (Nat.le_trans HBW.out GG.out.b.size)
              have BB : Hid (Below base W W2) := Lib.hid (RR.out.bel.trans (GG.out.b.mono HBW.out))
              have B3 : Below W2.heap.size W2 (W2.alloc (.cells #[.int .u32 xa, .int .i64 xl] 55)) := (Below.refl _ _).alloc (Nat.le_refl _) _
              have OW := Lib.hid (PfxOwn.below OW2.out B3)
              have SL : Hid (SlV 2 (W2.alloc (.cells #[.int .u32 xa, .int .i64 xl] 55)) (.slice (some ⟨W2.heap.size, 0, none⟩) 1 1) [pfxE ⟨xa, xl⟩]) := Lib.hid (sl_one2 ⟨xa, xl⟩ W2)
              have K1 : Hid ((out).length + [pfxE ⟨xa, xl⟩].length ≤ maxLen) := Lib.hid (by have := LEN.out; have := HN.out; simp only [List.length_singleton]; unfold maxLen; omega)
              have K2 : Hid (((out).length + [pfxE ⟨xa, xl⟩].length) * 16 ≤ 140737488355328) := Lib.hid (by have := LEN.out; have := HN.out; simp only [List.length_singleton]; omega)
              have BS : Hid (base ≤ (W2.alloc (.cells #[.int .u32 xa, .int .i64 xl] 55)).heap.size) := Lib.hid (Nat.le_trans BZ.out B3.size)
              have STEP := Lib.hid (fun v' w4 own' hg4 => pfx_snoc (v' := v') (w4 := w4) (x := ⟨xa, xl⟩) BZ.out OW2.out B3 own' hg4)
              clear B3
              go_wp2_with (at_builtin; refine wpList_append_sl rfl _ _ _ rfl base 55 i0 _ 2 16 Tryz.underlying114 HI0.out HZ0.out HZ1.out HZ2.out rfl (by decide) _ (out).length _ rfl OW.out _ [pfxE ⟨xa, xl⟩] rfl SL.out (pfxE_len [_]) (pfxE_one [_]) K1.out K2.out BS.out ?_; intro v4 w4 own' hg4; have NX := Lib.hid (STEP.out v4 w4 own' hg4); clear own' hg4 STEP OW SL K1 K2 BS; skip)
              have RN : Hid (PadRel base W l ⟨ga, gl⟩ (k + 1) true (out ++ [⟨xa, xl⟩]) v4 w4) := Lib.hid ⟨NX.out.1, BB.out.trans NX.out.2, by omega, IN.out⟩
              go_roundw
              case rel => exact ⟨k + 1, true, _, rfl, by go_num, RN.out⟩
              case measure => simp [intOf]; omega
            · have de : decide ((⟨xa, xl⟩ : Ls.Pfx) = ⟨ga, gl⟩) = false := by simpa using e
              rw [de] at EQ1
              clear de e
              go_wp2_with fail
              go_quiet (fail)
              generalize hW1 : wr.drewN _ = W1
              have GG : Hid (Gr wr W1) := Lib.hid (hW1 ▸ (Gr.refl _).drewN _)
              clear hW1
              clear d0 d1 p0 p1
              have d0 := bcell GG.out.b D0.out
              have d1 := bcell GG.out.b D1.out
              have p0 := bcell GG.out.b P0.out
              have p1 := bcell GG.out.b P1.out
              go_wp2_with fail
              go_quiet (fail)
              generalize hW2 : W1.drewN _ = W2
              have G2 : Hid (Gr W1 W2) := Lib.hid (hW2 ▸ (Gr.refl _).drewN _)
              clear hW2
              have GG : Hid (Gr wr W2) := Lib.hid (GG.out.trans G2.out)
              clear d0 d1 p0 p1
              have d0 := bcell GG.out.b D0.out
              have d1 := bcell GG.out.b D1.out
              have p0 := bcell GG.out.b P0.out
              have p1 := bcell GG.out.b P1.out
              have OW2 : Hid (PfxOwn base W2 VV out) := Lib.hid (RR.out.own.below GG.out.b)
              have BZ : Hid (base ≤ W2.heap.size) := Lib.hid (Nat.le_trans HBW.out GG.out.b.size)
              have BB : Hid (Below base W W2) := Lib.hid (RR.out.bel.trans (GG.out.b.mono HBW.out))
              have B3 : Below W2.heap.size W2 (W2.alloc (.cells #[.int .u32 xa, .int .i64 xl] 55)) := (Below.refl _ _).alloc (Nat.le_refl _) _
              have OW := Lib.hid (PfxOwn.below OW2.out B3)
              have SL : Hid (SlV 2 (W2.alloc (.cells #[.int .u32 xa, .int .i64 xl] 55)) (.slice (some ⟨W2.heap.size, 0, none⟩) 1 1) [pfxE ⟨xa, xl⟩]) := Lib.hid (sl_one2 ⟨xa, xl⟩ W2)
              have K1 : Hid ((out).length + [pfxE ⟨xa, xl⟩].length ≤ maxLen) := Lib.hid (by have := LEN.out; have := HN.out; simp only [List.length_singleton]; unfold maxLen; omega)
              have K2 : Hid (((out).length + [pfxE ⟨xa, xl⟩].length) * 16 ≤ 140737488355328) := Lib.hid (by have := LEN.out; have := HN.out; simp only [List.length_singleton]; omega)
              have BS : Hid (base ≤ (W2.alloc (.cells #[.int .u32 xa, .int .i64 xl] 55)).heap.size) := Lib.hid (Nat.le_trans BZ.out B3.size)
              have STEP := Lib.hid (fun v' w4 own' hg4 => pfx_snoc (v' := v') (w4 := w4) (x := ⟨xa, xl⟩) BZ.out OW2.out B3 own' hg4)
              clear B3
              go_wp2_with (at_builtin; refine wpList_append_sl rfl _ _ _ rfl base 55 i0 _ 2 16 Tryz.underlying114 HI0.out HZ0.out HZ1.out HZ2.out rfl (by decide) _ (out).length _ rfl OW.out _ [pfxE ⟨xa, xl⟩] rfl SL.out (pfxE_len [_]) (pfxE_one [_]) K1.out K2.out BS.out ?_; intro v4 w4 own' hg4; have NX := Lib.hid (STEP.out v4 w4 own' hg4); clear own' hg4 STEP OW SL K1 K2 BS; skip)
              have RN : Hid (PadRel base W l ⟨ga, gl⟩ (k + 1) true (out ++ [⟨xa, xl⟩]) v4 w4) := Lib.hid ⟨NX.out.1, BB.out.trans NX.out.2, by omega, IN.out⟩
              go_roundw
              case rel => exact ⟨k + 1, true, _, rfl, by go_num, RN.out⟩
              case measure => simp [intOf]; omega
          | false =>
            by_cases e : (⟨xa, xl⟩ : Ls.Pfx) = ⟨ga, gl⟩
            · have IN := Lib.hid (IB.out rfl e)
              clear IA IB IC ID
              have de : decide ((⟨xa, xl⟩ : Ls.Pfx) = ⟨ga, gl⟩) = true := by simpa using e
              rw [de] at EQ1
              clear de e
              go_wp2_with fail
              go_quiet (fail)
              generalize hW1 : wr.drewN _ = W1
              have GG : Hid (Gr wr W1) := Lib.hid (hW1 ▸ (Gr.refl _).drewN _)
              clear hW1
              clear d0 d1 p0 p1
              have d0 := bcell GG.out.b D0.out
              have d1 := bcell GG.out.b D1.out
              have p0 := bcell GG.out.b P0.out
              have p1 := bcell GG.out.b P1.out
              go_wp2_with fail
              go_quiet (fail)
              generalize hW2 : W1.drewN _ = W2
              have G2 : Hid (Gr W1 W2) := Lib.hid (hW2 ▸ (Gr.refl _).drewN _)
              clear hW2
              have GG : Hid (Gr wr W2) := Lib.hid (GG.out.trans G2.out)
              clear d0 d1 p0 p1
              have d0 := bcell GG.out.b D0.out
              have d1 := bcell GG.out.b D1.out
              have p0 := bcell GG.out.b P0.out
              have p1 := bcell GG.out.b P1.out
              have OW2 : Hid (PfxOwn base W2 VV out) := Lib.hid (RR.out.own.below GG.out.b)
              have BZ : Hid (base ≤ W2.heap.size) := Lib.hid (Nat.le_trans HBW.out GG.out.b.size)
              have BB : Hid (Below base W W2) := Lib.hid (RR.out.bel.trans (GG.out.b.mono HBW.out))
              have B3 : Below W2.heap.size W2 (W2.alloc (.cells #[.int .u32 xa, .int .i64 xl] 55)) := (Below.refl _ _).alloc (Nat.le_refl _) _
              have OW := Lib.hid (PfxOwn.below OW2.out B3)
              have SL : Hid (SlV 2 (W2.alloc (.cells #[.int .u32 xa, .int .i64 xl] 55)) (.slice (some ⟨W2.heap.size, 0, none⟩) 1 1) [pfxE ⟨xa, xl⟩]) := Lib.hid (sl_one2 ⟨xa, xl⟩ W2)
              have K1 : Hid ((out).length + [pfxE ⟨xa, xl⟩].length ≤ maxLen) := Lib.hid (by have := LEN.out; have := HN.out; simp only [List.length_singleton]; unfold maxLen; omega)
              have K2 : Hid (((out).length + [pfxE ⟨xa, xl⟩].length) * 16 ≤ 140737488355328) := Lib.hid (by have := LEN.out; have := HN.out; simp only [List.length_singleton]; omega)
              have BS : Hid (base ≤ (W2.alloc (.cells #[.int .u32 xa, .int .i64 xl] 55)).heap.size) := Lib.hid (Nat.le_trans BZ.out B3.size)
              have STEP := Lib.hid (fun v' w4 own' hg4 => pfx_snoc (v' := v') (w4 := w4) (x := ⟨xa, xl⟩) BZ.out OW2.out B3 own' hg4)
              clear B3
              go_wp2_with (at_builtin; refine wpList_append_sl rfl _ _ _ rfl base 55 i0 _ 2 16 Tryz.underlying114 HI0.out HZ0.out HZ1.out HZ2.out rfl (by decide) _ (out).length _ rfl OW.out _ [pfxE ⟨xa, xl⟩] rfl SL.out (pfxE_len [_]) (pfxE_one [_]) K1.out K2.out BS.out ?_; intro v4 w4 own' hg4; have NX := Lib.hid (STEP.out v4 w4 own' hg4); clear own' hg4 STEP OW SL K1 K2 BS; skip)
              have RN : Hid (PadRel base W l ⟨ga, gl⟩ (k + 1) true (out ++ [⟨xa, xl⟩]) v4 w4) := Lib.hid ⟨NX.out.1, BB.out.trans NX.out.2, by omega, IN.out⟩
              go_roundw
              case rel => exact ⟨k + 1, true, _, rfl, by go_num, RN.out⟩
              case measure => simp [intOf]; omega
            · have de : decide ((⟨xa, xl⟩ : Ls.Pfx) = ⟨ga, gl⟩) = false := by simpa using e
              rw [de] at EQ1
              cases hlt : Ls.pfxLt ⟨ga, gl⟩ ⟨xa, xl⟩ with
              | true =>
                have IN := Lib.hid (IC.out rfl e hlt)
                clear IA IB IC ID
                rw [hlt] at BC
                clear de e hlt
                go_wp2_with fail
                go_quiet (fail)
                generalize hW1 : wr.drewN _ = W1
                have GG : Hid (Gr wr W1) := Lib.hid (hW1 ▸ (Gr.refl _).drewN _)
                clear hW1
                clear d0 d1 p0 p1
                have d0 := bcell GG.out.b D0.out
                have d1 := bcell GG.out.b D1.out
                have p0 := bcell GG.out.b P0.out
                have p1 := bcell GG.out.b P1.out
                have y0 : ∀ n os, (Go.Sort.grow (W1.drewN n) os).cell? ⟨b, off + k * 2, none⟩ = some (.int .u32 xa) := cell_grown (World.block_lt_of_cell? _ _ d0) d0
                have y1 : ∀ n os, (Go.Sort.grow (W1.drewN n) os).cell? ⟨b, off + k * 2 + 1, none⟩ = some (.int .i64 xl) := cell_grown (World.block_lt_of_cell? _ _ d1) d1
                have z0 : ∀ n os, (Go.Sort.grow (W1.drewN n) os).cell? ⟨ob, oo + i * 4, none⟩ = some (.int .u32 ga) := cell_grown (World.block_lt_of_cell? _ _ p0) p0
                have z1 : ∀ n os, (Go.Sort.grow (W1.drewN n) os).cell? ⟨ob, oo + i * 4 + 1, none⟩ = some (.int .i64 gl) := cell_grown (World.block_lt_of_cell? _ _ p1) p1
                go_wp2_with fail
                refine wp_region_quiet_grown (by assumption) (by kernel_rfl) ?_
                repeat (go_big_quiet_step ((go_at_call 71; with_reducible exact Calls.grown_of (BC.out _))))
                refine wpQuiet_nil ?_
                intro _ hw'
                obtain ⟨⟨nq, osq⟩, hw''⟩ := hw'
                subst hw''
                generalize hW2 : Go.Sort.grow (W1.drewN nq) osq = W2
                have G2 : Hid (Gr W1 W2) := Lib.hid (hW2 ▸ Gr.of_grow nq osq)
                clear hW2 y0 y1 z0 z1
                have GG : Hid (Gr wr W2) := Lib.hid (GG.out.trans G2.out)
                clear d0 d1 p0 p1
                have d0 := bcell GG.out.b D0.out
                have d1 := bcell GG.out.b D1.out
                have p0 := bcell GG.out.b P0.out
                have p1 := bcell GG.out.b P1.out
                have OW2 : Hid (PfxOwn base W2 VV out) := Lib.hid (RR.out.own.below GG.out.b)
                have BZ : Hid (base ≤ W2.heap.size) := Lib.hid (Nat.le_trans HBW.out GG.out.b.size)
                have BB : Hid (Below base W W2) := Lib.hid (RR.out.bel.trans (GG.out.b.mono HBW.out))
                have B3 : Below W2.heap.size W2 (W2.alloc (.cells #[.int .u32 ga, .int .i64 gl] 55)) := (Below.refl _ _).alloc (Nat.le_refl _) _
                have OW := Lib.hid (PfxOwn.below OW2.out B3)
                have SL : Hid (SlV 2 (W2.alloc (.cells #[.int .u32 ga, .int .i64 gl] 55)) (.slice (some ⟨W2.heap.size, 0, none⟩) 1 1) [pfxE ⟨ga, gl⟩]) := Lib.hid (sl_one2 ⟨ga, gl⟩ W2)
                have K1 : Hid ((out).length + [pfxE ⟨ga, gl⟩].length ≤ maxLen) := Lib.hid (by have := LEN.out; have := HN.out; simp only [List.length_singleton]; unfold maxLen; omega)
                have K2 : Hid (((out).length + [pfxE ⟨ga, gl⟩].length) * 16 ≤ 140737488355328) := Lib.hid (by have := LEN.out; have := HN.out; simp only [List.length_singleton]; omega)
                have BS : Hid (base ≤ (W2.alloc (.cells #[.int .u32 ga, .int .i64 gl] 55)).heap.size) := Lib.hid (Nat.le_trans BZ.out B3.size)
                have STEP := Lib.hid (fun v' w4 own' hg4 => pfx_snoc (v' := v') (w4 := w4) (x := ⟨ga, gl⟩) BZ.out OW2.out B3 own' hg4)
                clear B3
                go_upto_region 15 with (at_builtin; refine wpList_append_sl rfl _ _ _ rfl base 55 i0 _ 2 16 Tryz.underlying114 HI0.out HZ0.out HZ1.out HZ2.out rfl (by decide) _ (out).length _ rfl OW.out _ [pfxE ⟨ga, gl⟩] rfl SL.out (pfxE_len [_]) (pfxE_one [_]) K1.out K2.out BS.out ?_; intro v3 w3 own' hg4; have NX := Lib.hid (STEP.out v3 w3 own' hg4); clear own' hg4 STEP OW SL K1 K2 BS; skip)
                have O3 : Hid (PfxOwn base w3 v3 (out ++ [(⟨ga, gl⟩ : Ls.Pfx)])) := Lib.hid NX.out.1
                have BB3 : Hid (Below base W w3) := Lib.hid (BB.out.trans NX.out.2)
                have BZ3 : Hid (base ≤ w3.heap.size) := Lib.hid (Nat.le_trans BZ.out NX.out.2.size)
                have d0 := (World.cell?_of_block (w := W2) (w' := w3) (a := ⟨b, off + k * 2, none⟩) (NX.out.2.block b hbb)).trans d0
                have d1 := (World.cell?_of_block (w := W2) (w' := w3) (a := ⟨b, off + k * 2 + 1, none⟩) (NX.out.2.block b hbb)).trans d1
                clear NX
                have B3 : Below w3.heap.size w3 (w3.alloc (.cells #[.int .u32 xa, .int .i64 xl] 55)) := (Below.refl _ _).alloc (Nat.le_refl _) _
                have OW := Lib.hid (PfxOwn.below O3.out B3)
                have SL : Hid (SlV 2 (w3.alloc (.cells #[.int .u32 xa, .int .i64 xl] 55)) (.slice (some ⟨w3.heap.size, 0, none⟩) 1 1) [pfxE ⟨xa, xl⟩]) := Lib.hid (sl_one2 ⟨xa, xl⟩ w3)
                have K1 : Hid ((out ++ [(⟨ga, gl⟩ : Ls.Pfx)]).length + [pfxE ⟨xa, xl⟩].length ≤ maxLen) := Lib.hid (by have := LEN.out; have := HN.out; simp only [List.length_singleton, List.length_append]; unfold maxLen; omega)
                have K2 : Hid (((out ++ [(⟨ga, gl⟩ : Ls.Pfx)]).length + [pfxE ⟨xa, xl⟩].length) * 16 ≤ 140737488355328) := Lib.hid (by have := LEN.out; have := HN.out; simp only [List.length_singleton, List.length_append]; omega)
                have BS : Hid (base ≤ (w3.alloc (.cells #[.int .u32 xa, .int .i64 xl] 55)).heap.size) := Lib.hid (Nat.le_trans BZ3.out B3.size)
                have STEP := Lib.hid (fun v' w4 own' hg4 => pfx_snoc (v' := v') (w4 := w4) (x := ⟨xa, xl⟩) BZ3.out O3.out B3 own' hg4)
                clear B3
                go_wp2_with (at_builtin; refine wpList_append_sl rfl _ _ _ rfl base 55 i0 _ 2 16 Tryz.underlying114 HI0.out HZ0.out HZ1.out HZ2.out rfl (by decide) _ (out ++ [(⟨ga, gl⟩ : Ls.Pfx)]).length _ rfl OW.out _ [pfxE ⟨xa, xl⟩] rfl SL.out (pfxE_len [_]) (pfxE_one [_]) K1.out K2.out BS.out ?_; intro v4 w4 own' hg4; have NX := Lib.hid (STEP.out v4 w4 own' hg4); clear own' hg4 STEP OW SL K1 K2 BS; skip)
                have RN : Hid (PadRel base W l ⟨ga, gl⟩ (k + 1) true (out ++ [(⟨ga, gl⟩ : Ls.Pfx)] ++ [⟨xa, xl⟩]) v4 w4) := Lib.hid ⟨NX.out.1, BB3.out.trans NX.out.2, by omega, IN.out⟩
                go_roundw
                case rel => exact ⟨k + 1, true, _, rfl, by go_num, RN.out⟩
                case measure => simp [intOf]; omega
              | false =>
                have IN := Lib.hid (ID.out rfl e hlt)
                clear IA IB IC ID
                rw [hlt] at BC
                clear de e hlt
                go_wp2_with fail
                go_quiet (fail)
                generalize hW1 : wr.drewN _ = W1
                have GG : Hid (Gr wr W1) := Lib.hid (hW1 ▸ (Gr.refl _).drewN _)
                clear hW1
                clear d0 d1 p0 p1
                have d0 := bcell GG.out.b D0.out
                have d1 := bcell GG.out.b D1.out
                have p0 := bcell GG.out.b P0.out
                have p1 := bcell GG.out.b P1.out
                have y0 : ∀ n os, (Go.Sort.grow (W1.drewN n) os).cell? ⟨b, off + k * 2, none⟩ = some (.int .u32 xa) := cell_grown (World.block_lt_of_cell? _ _ d0) d0
                have y1 : ∀ n os, (Go.Sort.grow (W1.drewN n) os).cell? ⟨b, off + k * 2 + 1, none⟩ = some (.int .i64 xl) := cell_grown (World.block_lt_of_cell? _ _ d1) d1
                have z0 : ∀ n os, (Go.Sort.grow (W1.drewN n) os).cell? ⟨ob, oo + i * 4, none⟩ = some (.int .u32 ga) := cell_grown (World.block_lt_of_cell? _ _ p0) p0
                have z1 : ∀ n os, (Go.Sort.grow (W1.drewN n) os).cell? ⟨ob, oo + i * 4 + 1, none⟩ = some (.int .i64 gl) := cell_grown (World.block_lt_of_cell? _ _ p1) p1
                go_wp2_with fail
                refine wp_region_quiet_grown (by assumption) (by kernel_rfl) ?_
                repeat (go_big_quiet_step ((go_at_call 71; with_reducible exact Calls.grown_of (BC.out _))))
                refine wpQuiet_nil ?_
                intro _ hw'
                obtain ⟨⟨nq, osq⟩, hw''⟩ := hw'
                subst hw''
                generalize hW2 : Go.Sort.grow (W1.drewN nq) osq = W2
                have G2 : Hid (Gr W1 W2) := Lib.hid (hW2 ▸ Gr.of_grow nq osq)
                clear hW2 y0 y1 z0 z1
                have GG : Hid (Gr wr W2) := Lib.hid (GG.out.trans G2.out)
                clear d0 d1 p0 p1
                have d0 := bcell GG.out.b D0.out
                have d1 := bcell GG.out.b D1.out
                have p0 := bcell GG.out.b P0.out
                have p1 := bcell GG.out.b P1.out
                have OW2 : Hid (PfxOwn base W2 VV out) := Lib.hid (RR.out.own.below GG.out.b)
                have BZ : Hid (base ≤ W2.heap.size) := Lib.hid (Nat.le_trans HBW.out GG.out.b.size)
                have BB : Hid (Below base W W2) := Lib.hid (RR.out.bel.trans (GG.out.b.mono HBW.out))
                have B3 : Below W2.heap.size W2 (W2.alloc (.cells #[.int .u32 xa, .int .i64 xl] 55)) := (Below.refl _ _).alloc (Nat.le_refl _) _
                have OW := Lib.hid (PfxOwn.below OW2.out B3)
                have SL : Hid (SlV 2 (W2.alloc (.cells #[.int .u32 xa, .int .i64 xl] 55)) (.slice (some ⟨W2.heap.size, 0, none⟩) 1 1) [pfxE ⟨xa, xl⟩]) := Lib.hid (sl_one2 ⟨xa, xl⟩ W2)
                have K1 : Hid ((out).length + [pfxE ⟨xa, xl⟩].length ≤ maxLen) := Lib.hid (by have := LEN.out; have := HN.out; simp only [List.length_singleton]; unfold maxLen; omega)
                have K2 : Hid (((out).length + [pfxE ⟨xa, xl⟩].length) * 16 ≤ 140737488355328) := Lib.hid (by have := LEN.out; have := HN.out; simp only [List.length_singleton]; omega)
                have BS : Hid (base ≤ (W2.alloc (.cells #[.int .u32 xa, .int .i64 xl] 55)).heap.size) := Lib.hid (Nat.le_trans BZ.out B3.size)
                have STEP := Lib.hid (fun v' w4 own' hg4 => pfx_snoc (v' := v') (w4 := w4) (x := ⟨xa, xl⟩) BZ.out OW2.out B3 own' hg4)
                clear B3
                go_wp2_with (at_builtin; refine wpList_append_sl rfl _ _ _ rfl base 55 i0 _ 2 16 Tryz.underlying114 HI0.out HZ0.out HZ1.out HZ2.out rfl (by decide) _ (out).length _ rfl OW.out _ [pfxE ⟨xa, xl⟩] rfl SL.out (pfxE_len [_]) (pfxE_one [_]) K1.out K2.out BS.out ?_; intro v4 w4 own' hg4; have NX := Lib.hid (STEP.out v4 w4 own' hg4); clear own' hg4 STEP OW SL K1 K2 BS; skip)
                have RN : Hid (PadRel base W l ⟨ga, gl⟩ (k + 1) false (out ++ [⟨xa, xl⟩]) v4 w4) := Lib.hid ⟨NX.out.1, BB.out.trans NX.out.2, by omega, IN.out⟩
                go_roundw
                case rel => exact ⟨k + 1, false, _, rfl, by go_num, RN.out⟩
                case measure => simp [intOf]; omega
        · cases done with
          | true =>
            have EN := Lib.hid (AddInv.end1 RR.out.inv c)
            have FIN := Lib.hid (STEPO.out u5 wr (by rw [← EN.out]; exact RR.out.own.at) (by have h := HB0.out.trans RR.out.bel; rw [HBA.out] at h; exact h))
            go_wp2_with fail
            go_roundw
            case rel => exact ⟨i + 1, by go_num, FIN.out⟩
            case measure => simp [intOf]; omega
          | false =>
            have EN := Lib.hid (AddInv.end2 RR.out.inv c)
            have RON := Lib.hid RR.out.own
            have B3 : Below wr.heap.size wr (wr.alloc (.cells #[.int .u32 ga, .int .i64 gl] 55)) := (Below.refl _ _).alloc (Nat.le_refl _) _
            have OW := Lib.hid (PfxOwn.below RON.out B3)
            have SL : Hid (SlV 2 (wr.alloc (.cells #[.int .u32 ga, .int .i64 gl] 55)) (.slice (some ⟨wr.heap.size, 0, none⟩) 1 1) [pfxE ⟨ga, gl⟩]) := Lib.hid (sl_one2 ⟨ga, gl⟩ wr)
            have K1 : Hid ((out).length + [pfxE ⟨ga, gl⟩].length ≤ maxLen) := Lib.hid (by have := LEN.out; have := HN.out; simp only [List.length_singleton]; unfold maxLen; omega)
            have K2 : Hid (((out).length + [pfxE ⟨ga, gl⟩].length) * 16 ≤ 140737488355328) := Lib.hid (by have := LEN.out; have := HN.out; simp only [List.length_singleton]; omega)
            have BS : Hid (base ≤ (wr.alloc (.cells #[.int .u32 ga, .int .i64 gl] 55)).heap.size) := Lib.hid (Nat.le_trans HBW.out B3.size)
            have STEP := Lib.hid (fun v' w4 own' hg4 => pfx_snoc (v' := v') (w4 := w4) (x := ⟨ga, gl⟩) HBW.out RON.out B3 own' hg4)
            clear B3
            go_wp2_with (at_builtin; refine wpList_append_sl rfl _ _ _ rfl base 55 i0 _ 2 16 Tryz.underlying114 HI0.out HZ0.out HZ1.out HZ2.out rfl (by decide) _ (out).length _ rfl OW.out _ [pfxE ⟨ga, gl⟩] rfl SL.out (pfxE_len [_]) (pfxE_one [_]) K1.out K2.out BS.out ?_; intro v4 w4 own' hg4; have NX := Lib.hid (STEP.out v4 w4 own' hg4); clear own' hg4 STEP OW SL K1 K2 BS; skip)
            have FIN := Lib.hid (STEPO.out v4 w4 (by rw [← EN.out]; exact NX.out.1.at) (by have h := HB0.out.trans (RR.out.bel.trans NX.out.2); rw [HBA.out] at h; exact h))
            go_roundw
            case rel => exact ⟨i + 1, by go_num, FIN.out⟩
            case measure => simp [intOf]; omega
    · have ei : offs.take i = offs := List.take_of_length_le (by omega)
      have FIN : Hid (PfxsAt wr u3 (Ls.adds Ls.pfxLt [] offs) ∧ Below w.heap.size w wr) := Lib.hid ⟨by have := RO.out.hp; rwa [ei] at this, RO.out.bel⟩
      go_wp2_with fail
      go_ret
      exact ⟨_, rfl, FIN.out⟩

end Go.Proofs.YtogdconliofblaaGreat
