/-
  routingref33.Summaries: what its loops carry.
-/
/-
  routingref33.Summaries walked.
-/
/-
  InterSummaries: the law walked.
-/
import Derived.Test.YtogdconliofblaaGreatAcw
import Derived.Test.YtogdconliofblaaGreatSrr
import Derived.Test.YtogdconliofblaaGreatApo
import Derived.Test.YtogdconliofblaaGreatSmx
import Derived.Test.YtogdconliofblaaGreatBkl
import Derived.Test.YtogdconliofblaaGreatSme
import Derived.Test.YtogdconliofblaaGreatLvx
import Derived.Deep.DeepCutAuto
import Derived.Deep.RegionHeld3
namespace Go.Proofs.YtogdconliofblaaGreat
open Go.RowKit

/-- a row of routes that grows -/
structure RwR (W1 : World) (p : Rt → Bool) (rs : List RtH) (k : Nat) (v : Value) (wr : World) : Prop where
  hk : k ≤ rs.length
  own : RtsOwn W1.heap.size wr v (((rs.take k).filter fun y => p y.rt).map RtH.rt)
  bel : Below W1.heap.size W1 wr
theorem RwR.start (W1 : World) (p : Rt → Bool) (rs : List RtH) : RwR W1 p rs 0 (.slice (some ⟨W1.heap.size, 0, none⟩) 0 0) (W1.alloc (.cells #[] 57)) := by
  refine ⟨Nat.zero_le _, ?_, (Below.refl _ _).alloc (Nat.le_refl _) _⟩
  have := World.ownsRow_made (size := 9) (e := 57) (base := W1.heap.size) W1 #[] 0 (by simp) (by unfold maxLen; omega) rfl
  simpa [RtsOwn] using this
theorem RwR.below {W1 : World} {p : Rt → Bool} {rs : List RtH} {k : Nat} {v : Value} {wr W' : World} (R : RwR W1 p rs k v wr) (hb : Below wr.heap.size wr W') : RwR W1 p rs k v W' :=
  ⟨R.hk, World.ownsRow.kept (row := none) R.own (grown_of_below hb none) (by cases v.ownBlock <;> simp), R.bel.trans (hb.mono R.bel.size)⟩
theorem RwR.skip {W1 : World} {p : Rt → Bool} {rs : List RtH} {k : Nat} {v : Value} {wr : World} (R : RwR W1 p rs k v wr) (c : k < rs.length) (h : p (rthAt rs k).rt = false) : RwR W1 p rs (k + 1) v wr := by
  refine ⟨c, ?_, R.bel⟩
  rw [rthAt_eq c] at h
  rw [List.take_succ_eq_append_getElem c, List.filter_append, List.filter_cons_of_neg (by simp [h]), List.filter_nil, List.append_nil]
  exact R.own
theorem RwR.push {W1 : World} {p : Rt → Bool} {rs : List RtH} {k : Nat} {v v' : Value} {wr w4 : World} (R : RwR W1 p rs k v wr) (c : k < rs.length) (h : p (rthAt rs k).rt = true)
    (own' : w4.ownsRow W1.heap.size 57 9 v' ((((rs.take k).filter fun y => p y.rt).map RtH.rt).length + 1) (((((rs.take k).filter fun y => p y.rt).map RtH.rt).map rtE).flatten ++ rtE (rthAt rs k).rt)) (hg4 : wr.grownBy w4 v.ownBlock) : RwR W1 p rs (k + 1) v' w4 := by
  refine ⟨c, ?_, R.bel.grown hg4 R.bel.size (fun j hj => (World.ownsRow.lt R.own j hj).1)⟩
  have e : ((rs.take (k + 1)).filter fun y => p y.rt).map RtH.rt = ((rs.take k).filter fun y => p y.rt).map RtH.rt ++ [(rthAt rs k).rt] := by
    rw [rthAt_eq c] at h ⊢
    rw [List.take_succ_eq_append_getElem c, List.filter_append, List.filter_cons_of_pos (by simpa using h), List.filter_nil, List.map_append]; rfl
  rw [e]
  unfold RtsOwn
  rw [List.length_append, List.map_append, List.flatten_append]
  simpa using own'
theorem RwR.len {W1 : World} {p : Rt → Bool} {rs : List RtH} {k : Nat} {v : Value} {wr : World} (_R : RwR W1 p rs k v wr) : (((rs.take k).filter fun y => p y.rt).map RtH.rt).length ≤ k := by
  rw [List.length_map]
  have h1 := List.length_filter_le (fun y : RtH => p y.rt) (rs.take k)
  rw [List.length_take] at h1
  omega
theorem RwR.routes {w W1 : World} {p : Rt → Bool} {rs : List RtH} {v vr : Value} {wr : World} (R : RwR W1 p rs rs.length v wr) (h1 : Below w.heap.size w W1) (hr : RoutesAt w vr rs) : RoutesAt wr v (rs.filter fun y => p y.rt) := by
  have hb := h1.trans (R.bel.mono h1.size)
  refine ⟨?_, fun x hx => (hr.hops x (List.mem_filter.1 hx).1).below hb⟩
  have o := R.own
  rw [List.take_length] at o
  have e : (rs.filter fun y => p y.rt).map (fun x => rtE x.rt) = ((rs.filter fun y => p y.rt).map RtH.rt).map rtE := by rw [List.map_map]; rfl
  rw [e]
  exact SlV.of_own (rtE_len _) (by simpa [RtsOwn] using o)

/-- k routes are looked through, m of them are put out -/
structure SmA (W1 : World) (R : Int) (lr : List Arg) (into : Int) (rs : List RtH) (k m : Nat) (vo va : Value) (wr : World) : Prop where
  row : RwR W1 (useB into) rs k va wr
  out : ∃ L, LsasAt wr vo L ∧ TbL R L (sumK lr into rs m).1 (fun _ => none) ∧ L.length ≤ m
  sep : ∀ b, vo.ownBlock = some b → va.ownBlock ≠ some b ∧ b < wr.heap.size
theorem SmA.below {W1 : World} {R : Int} {lr : List Arg} {into : Int} {rs : List RtH} {k m : Nat} {vo va : Value} {wr W' : World} (S : SmA W1 R lr into rs k m vo va wr) (hb : Below wr.heap.size wr W') : SmA W1 R lr into rs k m vo va W' :=
  ⟨S.row.below hb, by obtain ⟨L, h1, h2⟩ := S.out; exact ⟨L, h1.below hb, h2⟩, fun b h => ⟨(S.sep b h).1, Nat.lt_of_lt_of_le (S.sep b h).2 hb.size⟩⟩
theorem SmA.skip {W1 : World} {R : Int} {lr : List Arg} {into : Int} {rs : List RtH} {k : Nat} {vo va : Value} {wr : World} (S : SmA W1 R lr into rs k k vo va wr) (c : k < rs.length) (h : useB into (rthAt rs k).rt = false) : SmA W1 R lr into rs (k + 1) (k + 1) vo va wr := by
  refine ⟨S.row.skip c h, ?_, S.sep⟩
  obtain ⟨L, h1, h2, h3⟩ := S.out
  refine ⟨L, h1, ?_, by omega⟩
  rw [rthAt_eq c] at h
  rw [sumK_succ lr into rs c]
  have : sumOne lr into (sumK lr into rs k) rs[k].rt = sumK lr into rs k := by unfold sumOne; rw [if_neg (by simp [h])]
  rw [this]; exact h2
theorem SmA.push {W1 : World} {R : Int} {lr : List Arg} {into : Int} {rs : List RtH} {k : Nat} {vo va v' : Value} {wr w4 : World} (S : SmA W1 R lr into rs k k vo va wr) (c : k < rs.length) (h : useB into (rthAt rs k).rt = true)
    (own' : w4.ownsRow W1.heap.size 57 9 v' ((((rs.take k).filter fun y => useB into y.rt).map RtH.rt).length + 1) (((((rs.take k).filter fun y => useB into y.rt).map RtH.rt).map rtE).flatten ++ rtE (rthAt rs k).rt)) (hg4 : wr.grownBy w4 va.ownBlock)
    (d : v'.ownBlock = va.ownBlock ∨ v'.ownBlock = some wr.heap.size) : SmA W1 R lr into rs (k + 1) k vo v' w4 := by
  refine ⟨S.row.push c h own' hg4, ?_, fun b hb => ?_⟩
  · obtain ⟨L, h1, h2⟩ := S.out
    refine ⟨L, SlV.kept h1 hg4 fun b off n c e => ?_, h2⟩
    subst e
    exact (S.sep b rfl).1
  · obtain ⟨h1, h2⟩ := S.sep b hb
    refine ⟨?_, Nat.lt_of_lt_of_le h2 hg4.size⟩
    rcases d with d | d
    · rw [d]; exact h1
    · rw [d]; intro e; cases e; omega
theorem sumK_own {lr : List Arg} (F : ArgsFine lr) (into : Int) {rs : List RtH} {k : Nat} (c : k < rs.length) (hv : validP (rthAt rs k).rt.pfx = true) (h : useB into (rthAt rs k).rt = true) :
    (sumK lr into rs (k + 1)).1 = if ownB into (rthAt rs k).rt (tkK lr (rthAt rs k).rt lr.length).isSome = true then leastF (sumK lr into rs k).1 (rthAt rs k).rt.pfx (rthAt rs k).rt.cost else (sumK lr into rs k).1 := by
  rw [rthAt_eq c] at h hv ⊢
  rw [sumK_succ lr into rs c, sumOne_ref F into _ hv, if_pos h]
theorem SmA.none {W1 : World} {R : Int} {lr : List Arg} (F : ArgsFine lr) {into : Int} {rs : List RtH} {k : Nat} {vo va : Value} {wr : World} (S : SmA W1 R lr into rs (k + 1) k vo va wr) (c : k < rs.length) (hv : validP (rthAt rs k).rt.pfx = true) (h : useB into (rthAt rs k).rt = true) (ho : ownB into (rthAt rs k).rt (tkK lr (rthAt rs k).rt lr.length).isSome = false) : SmA W1 R lr into rs (k + 1) (k + 1) vo va wr := by
  refine ⟨S.row, ?_, S.sep⟩
  obtain ⟨L, h1, h2, h3⟩ := S.out
  refine ⟨L, h1, ?_, by omega⟩
  rw [sumK_own F into c hv h, if_neg (by simp [ho])]; exact h2
theorem SmA.keep {W1 : World} {R : Int} {lr : List Arg} (F : ArgsFine lr) {into : Int} {rs : List RtH} {k : Nat} {vo va : Value} {wr : World} (S : SmA W1 R lr into rs (k + 1) k vo va wr) (c : k < rs.length) (hv : validP (rthAt rs k).rt.pfx = true) (hp : pfxOk (rthAt rs k).rt.pfx) (h : useB into (rthAt rs k).rt = true) (ho : ownB into (rthAt rs k).rt (tkK lr (rthAt rs k).rt lr.length).isSome = true) :
    ∃ L, LsasAt wr vo L ∧ L.length ≤ k ∧ ∀ e w', KeepPost wr vo L (sumL R (rthAt rs k).rt.pfx (rthAt rs k).rt.cost) e w' → ∃ v', e = .returned v' ∧ SmA W1 R lr into rs (k + 1) (k + 1) v' va w' := by
  obtain ⟨L, h1, h2, h3⟩ := S.out
  refine ⟨L, h1, h3, fun e w' K => ?_⟩
  obtain ⟨v', L', rfl, k1, k2, k3, k4⟩ := K
  refine ⟨v', rfl, S.row.below k2, ⟨L', k1, ?_, by have := k3.len h2.asc; omega⟩, fun b hb => ?_⟩
  · rw [sumK_own F into c hv h, if_pos ho]
    exact h2.sum hp k3
  · rcases k4 with rfl | k4
    · exact ⟨(S.sep b hb).1, Nat.lt_of_lt_of_le (S.sep b hb).2 k2.size⟩
    · obtain ⟨h5, h6⟩ := k4 b hb
      refine ⟨fun e => ?_, h6⟩
      have := (World.ownsRow.lt S.row.own b e).2
      omega

/-- the ranges and the ways are looked through -/
structure SmB (Wb : World) (R : Int) (g : Ls.Pfx → Option Int) (h : Int → Option Int) (n : Nat) (vo : Value) (wr : World) : Prop where
  out : ∃ L, LsasAt wr vo L ∧ TbL R L g h ∧ L.length ≤ n
  bel : Below Wb.heap.size Wb wr
theorem SmB.below {Wb : World} {R : Int} {g : Ls.Pfx → Option Int} {h : Int → Option Int} {n : Nat} {vo : Value} {wr W' : World} (S : SmB Wb R g h n vo wr) (hb : Below wr.heap.size wr W') : SmB Wb R g h (n + 1) vo W' :=
  ⟨by obtain ⟨L, h1, h2, h3⟩ := S.out; exact ⟨L, h1.below hb, h2, by omega⟩, S.bel.trans (hb.mono S.bel.size)⟩
theorem SmB.sum {Wb : World} {R : Int} {g : Ls.Pfx → Option Int} {h : Int → Option Int} {n : Nat} {vo : Value} {wr : World} (S : SmB Wb R g h n vo wr) {p : Ls.Pfx} (hp : pfxOk p) (c : Int) :
    ∃ L, L.length ≤ n ∧ LsasAt wr vo L ∧ ∀ W, Below wr.heap.size wr W → ∀ e w', KeepPost W vo L (sumL R p c) e w' → ∃ v', e = .returned v' ∧ SmB Wb R (leastF g p c) h (n + 1) v' w' := by
  obtain ⟨L, h1, h2, h3⟩ := S.out
  refine ⟨L, h3, h1, fun W hb e w' K => ?_⟩
  obtain ⟨v', L', rfl, k1, k2, k3, k4⟩ := K
  exact ⟨v', rfl, ⟨L', k1, h2.sum hp k3, by have := k3.len h2.asc; omega⟩, (S.bel.trans (hb.mono S.bel.size)).trans (k2.mono (Nat.le_trans S.bel.size hb.size))⟩
theorem SmB.bnd {Wb : World} {R : Int} {g : Ls.Pfx → Option Int} {h : Int → Option Int} {n : Nat} {vo : Value} {wr : World} (S : SmB Wb R g h n vo wr) {p : Int} (hp : u32Ok p) (c : Int) :
    ∃ L, L.length ≤ n ∧ LsasAt wr vo L ∧ ∀ W, Below wr.heap.size wr W → ∀ e w', KeepPost W vo L (bndL R p c) e w' → ∃ v', e = .returned v' ∧ SmB Wb R g (leastF h p c) (n + 1) v' w' := by
  obtain ⟨L, h1, h2, h3⟩ := S.out
  refine ⟨L, h3, h1, fun W hb e w' K => ?_⟩
  obtain ⟨v', L', rfl, k1, k2, k3, k4⟩ := K
  exact ⟨v', rfl, ⟨L', k1, h2.bnd hp k3, by have := k3.len h2.asc; omega⟩, (S.bel.trans (hb.mono S.bel.size)).trans (k2.mono (Nat.le_trans S.bel.size hb.size))⟩

end Go.Proofs.YtogdconliofblaaGreat

namespace Go.Proofs.YtogdconliofblaaGreat
open Go.RowKit

set_option maxHeartbeats 16000000 in
set_option maxRecDepth 100000 in
theorem rsummaries_calls (w : World) (C : Cfg) (lr : List Arg) (hlr : RngsAt w (.slice C.ra C.rn C.rc) lr) {rs0 : List RtH} (F : LFine lr rs0) (okl : ∀ o ∈ lr, OkP o.pfx) (into : Int) (vr : Value) (rs : List RtH) (hrs : rs = rs0) (hr : RoutesAt w vr rs) (okr : ∀ y ∈ rs, OkP y.rt.pfx)
    (vi : Value) (l : List Rch) (hl : ReachAt w vi l) (okw : ∀ x ∈ l, u32Ok x.router) (n3 : l.length ≤ 2097152) :
    Calls Tryz.prog 13 #[.agg (cfgE C).toArray, .int .u32 into, vr, vi] w (SuPost w C lr into rs l) := by
  subst hrs
  obtain ⟨i0, hi0, hz0, hz1, hz2⟩ := info_parts Tryz.infoRt
  have HI0 := Lib.hid hi0
  have HZ0 := Lib.hid hz0
  have HZ1 := Lib.hid hz1
  have HZ2 := Lib.hid hz2
  have TK0 := Lib.hid (fun W (hb : Below w.heap.size w W) r okr => taker_calls W _ lr (hlr.below hb) F.2.2.1.1 r okr)
  have AC0 := Lib.hid (fun W (hb : Below w.heap.size w W) at' vr rs' hr' okr' => active_calls W _ lr (hlr.below hb) F.2.2.1.1 at' vr rs' hr' okr')
  have FA := Lib.hid F
  have N1 := Lib.hid F.2.1
  have OKR := Lib.hid okr
  have OKL := Lib.hid okl
  have OKW := Lib.hid okw
  have N3 := Lib.hid n3
  have HRS := Lib.hid hr
  obtain ⟨a1, c1, e1, hl1, hc1⟩ := hlr.get
  obtain ⟨a2, c2, rfl, hl2, hc2⟩ := hr.get
  obtain ⟨a3, c3, rfl, hl3, hc3⟩ := hl.get
  have HC1 := Lib.hid hc1
  have HC := Lib.hid hc2
  have HC3 := Lib.hid hc3
  clear hlr F okl hr okr hl okw n3 hi0 hz0 hz1 hz2 hc1 hc2 hc3
  obtain ⟨router, ia, iN, ic, ra, rn, rc⟩ := C
  simp only [Value.slice.injEq] at e1
  obtain ⟨rfl, rfl, rfl⟩ := e1
  have TK := TK0
  have AC := AC0
  simp only at TK AC
  clear TK0 AC0
  obtain ⟨WA, hWA⟩ : ∃ WA, w.alloc (.cells #[.int .u32 router, .slice ia iN ic, .slice ra lr.length rc] 26) = WA := ⟨_, rfl⟩
  have BA : Below w.heap.size w WA := by rw [← hWA]; exact (Below.refl _ _).alloc (Nat.le_refl _) _
  have bA : WA.heap[w.heap.size]? = some (.cells #[.int .u32 router, .slice ia iN ic, .slice ra lr.length rc] 26 (0, 0)) := by rw [← hWA]; exact alloc_new w _
  obtain ⟨W1, hW1⟩ : ∃ W1, WA.alloc (.cells #[] 47) = W1 := ⟨_, rfl⟩
  have B1 : Below WA.heap.size WA W1 := by rw [← hW1]; exact (Below.refl _ _).alloc (Nat.le_refl _) _
  obtain ⟨W2, hW2⟩ : ∃ W2, W1.alloc (.cells #[] 57) = W2 := ⟨_, rfl⟩
  have B2 : Below W1.heap.size W1 W2 := by rw [← hW2]; exact (Below.refl _ _).alloc (Nat.le_refl _) _
  have z1 : W1.heap.size = WA.heap.size + 1 := by rw [← hW1]; simp
  have z2 : W2.heap.size = WA.heap.size + 2 := by rw [← hW2]; simp; omega
  have S0 : Hid (SmA W1 router lr into rs 0 0 (.slice (some ⟨WA.heap.size, 0, none⟩) 0 0) (.slice (some ⟨W1.heap.size, 0, none⟩) 0 0) W2) := Lib.hid ⟨by rw [← hW2]; exact RwR.start W1 _ rs, ⟨[], SlV.below (show LsasAt W1 _ [] from by rw [← hW1]; exact (Lg.start WA).at) B2, TbL.nil _, Nat.le_refl _⟩, fun b hb => by
    have hb : WA.heap.size = b := by simpa [Value.ownBlock] using hb
    refine ⟨fun e => ?_, by omega⟩
    have e : W1.heap.size = b := by simpa [Value.ownBlock] using e
    omega⟩
  have HB1 := Lib.hid (BA.trans (B1.mono BA.size))
  have HX1 := Lib.hid ((B1.block _ (blk_lt bA)).trans bA)
  have HW1 := Lib.hid hW1
  have HW2 := Lib.hid hW2
  have HWA := Lib.hid hWA
  simp only [cfgE]
  clear hWA BA bA hW1 B1 hW2 B2 z1 z2
  go_enter Tryz.func13, Tryz.ntmps13
  go_upto_region 1 with fail
  rw [HWA.out]
  go_upto_region 2 with fail
  rw [HW1.out]
  go_upto_region 3 with fail
  rw [HW2.out]
  clear HWA HW1 HW2
  go_wp2_with fail
  go_loopw [9, 10, 11] (fun vo va iv wr => ∃ k : Nat, iv = .int .i64 k ∧ Hid (SmA W1 router lr into rs k k vo va wr)) (fun _ _ i _ => rs.length - (intOf i).toNat)
  case atStart => exact ⟨0, rfl, S0⟩
  case round =>
    clear S0
    obtain ⟨k, rfl, S⟩ := hrel
    obtain ⟨vO, hvO⟩ : ∃ z, z = u9 := ⟨_, rfl⟩
    subst hvO
    obtain ⟨vA, hvA⟩ : ∃ z, z = u10 := ⟨_, rfl⟩
    subst hvA
    by_cases c : k < rs.length
    · obtain ⟨b, off, rfl, hb0, hcc⟩ := HC.out (by omega)
      have BW := HB1.out.trans (S.out.row.bel.mono HB1.out.size)
      obtain ⟨d0, d1, d2, d3, d4, d5, d6, d7, d8⟩ := (hcc k c).below BW hb0
      rw [← rthAt_eq c] at d0 d1 d2 d3 d4 d5 d6 d7 d8
      have hmem : rthAt rs k ∈ rs := by rw [rthAt_eq c]; exact List.getElem_mem c
      have hv := FA.out.2.2.2 _ hmem
      have hp : pfxOk (rthAt rs k).rt.pfx := pfxOk_rng (OKR.out _ hmem) (by have := validP_len hv; omega)
      have KC := Lib.hid c
      have n0 : (0 : Int) ≤ (k : Int) := by omega
      have n1 : (k : Int) < (rs.length : Int) := by omega
      have n3 : ((k : Int)).toNat = k := by omega
      obtain ⟨W3, hW3⟩ : ∃ W3, wr.alloc (.cells (rtE (rthAt rs k).rt).toArray 57) = W3 := ⟨_, rfl⟩
      have B3 : Below wr.heap.size wr W3 := by rw [← hW3]; exact (Below.refl _ _).alloc (Nat.le_refl _) _
      have b3 : W3.heap[wr.heap.size]? = some (.cells (rtE (rthAt rs k).rt).toArray 57 (0, 0)) := by rw [← hW3]; exact alloc_new _ _
      have S3 := S.out.below B3
      have SKP := Lib.hid (fun h => S3.skip c h)
      obtain ⟨W4, hW4⟩ : ∃ W4, W3.alloc (.cells (rtE (rthAt rs k).rt).toArray 57) = W4 := ⟨_, rfl⟩
      have B4 : Below W3.heap.size W3 W4 := by rw [← hW4]; exact (Below.refl _ _).alloc (Nat.le_refl _) _
      have S4 := S3.below B4
      have hva : ∀ j, vA.ownBlock = some j → j < wr.heap.size := fun j hj => (World.ownsRow.lt S.out.row.own j hj).2
      have hvl : ∀ j, vA.ownBlock = some j → W1.heap.size ≤ j := fun j hj => (World.ownsRow.lt S.out.row.own j hj).1
      have BK : Hid (W4.heap[W3.heap.size]? = some (.cells (rtE (rthAt rs k).rt).toArray 57 (0, 0))) := Lib.hid (by rw [← hW4]; exact alloc_new _ _)
      have bx : wr.heap[w.heap.size]? = some (.cells #[.int .u32 router, .slice ia iN ic, .slice ra lr.length rc] 26 (0, 0)) := (S.out.row.bel.block _ (blk_lt HX1.out)).trans HX1.out
      have CEL : Hid (∀ w5, W4.grownBy w5 vA.ownBlock → w5.heap[wr.heap.size]? = some (.cells (rtE (rthAt rs k).rt).toArray 57 (0, 0)) ∧ w5.heap[w.heap.size]? = some (.cells #[.int .u32 router, .slice ia iN ic, .slice ra lr.length rc] 26 (0, 0))) := Lib.hid (fun w5 hg => by
        have h3 := (hg.block wr.heap.size (Nat.lt_of_lt_of_le (blk_lt b3) B4.size) (fun e => by have := hva _ e.symm; omega)).trans ((B4.block _ (blk_lt b3)).trans b3)
        have hx := (hg.block w.heap.size (Nat.lt_of_lt_of_le (Nat.lt_of_lt_of_le (blk_lt bx) B3.size) B4.size) (fun e => by have := hvl _ e.symm; have := blk_lt HX1.out; omega)).trans ((B4.block _ (Nat.lt_of_lt_of_le (blk_lt bx) B3.size)).trans ((B3.block _ (blk_lt bx)).trans bx))
        exact ⟨h3, hx⟩)
      have PU := Lib.hid (fun v' w5 h own' hg4 d => S4.push (v' := v') (w4 := w5) c h own' hg4 d)
      have OWN : Hid (W4.ownsRow W1.heap.size 57 9 vA (((rs.take k).filter fun y => useB into y.rt).map RtH.rt).length ((((rs.take k).filter fun y => useB into y.rt).map RtH.rt).map rtE).flatten) := Lib.hid S4.row.own
      have ONE : Hid (∀ u ∈ rtE (rthAt rs k).rt, u.oneCell' = true) := Lib.hid (fun u hu => rtE_one _ u hu)
      have K1 : Hid ((((rs.take k).filter fun y => useB into y.rt).map RtH.rt).length + 1 ≤ maxLen) := Lib.hid (by have h1 := S.out.row.len; have h2 := N1.out; unfold maxLen; omega)
      have K2 : Hid (((((rs.take k).filter fun y => useB into y.rt).map RtH.rt).length + 1) * 88 ≤ 140737488355328) := Lib.hid (by have h1 := S.out.row.len; have h2 := N1.out; omega)
      have BS : Hid (W1.heap.size ≤ W4.heap.size) := Lib.hid (Nat.le_trans S.out.row.bel.size (Nat.le_trans B3.size B4.size))
      have TKW : Hid (∀ w5, Below W1.heap.size W1 w5 → Calls Tryz.prog 20 #[.slice ra lr.length rc, .agg (rtE (rthAt rs k).rt).toArray] w5 fun e w' => e = .returned (.int .i64 (tkI (tkK lr (rthAt rs k).rt lr.length))) ∧ Gr w5 w') := Lib.hid (fun w5 hb => TK.out w5 (HB1.out.trans (hb.mono HB1.out.size)) _ (OKR.out _ hmem))
      have NON : Hid (useB into (rthAt rs k).rt = true → ownB into (rthAt rs k).rt (tkK lr (rthAt rs k).rt lr.length).isSome = false → ∀ v' w5, SmA W1 router lr into rs (k + 1) k vO v' w5 → SmA W1 router lr into rs (k + 1) (k + 1) vO v' w5) := Lib.hid (fun h ho v' w5 s => s.none FA.out.2.2.1 c hv h ho)
      have KEP : Hid (useB into (rthAt rs k).rt = true → ownB into (rthAt rs k).rt (tkK lr (rthAt rs k).rt lr.length).isSome = true → ∀ vo v' w6, SmA W1 router lr into rs (k + 1) k vo v' w6 → ∃ L, LsasAt w6 vo L ∧ L.length ≤ k ∧ ∀ e w', KeepPost w6 vo L (sumL router (rthAt rs k).rt.pfx (rthAt rs k).rt.cost) e w' → ∃ v2, e = .returned v2 ∧ SmA W1 router lr into rs (k + 1) (k + 1) v2 v' w') := Lib.hid (fun h ho vo v' w6 s => s.keep FA.out.2.2.1 c hv hp h ho)
      have y0 := blk_cell (i := 0) ((B3.block _ (blk_lt bx)).trans bx) rfl
      have y2 := blk_cell (i := 2) ((B3.block _ (blk_lt bx)).trans bx) rfl
      have HB3 := Lib.hid b3
      have HW3 := Lib.hid hW3
      have HW4 := Lib.hid hW4
      clear hcc hW3 hW4 B3 B4 S S3 S4 BW c hmem hv hp hva hvl bx b3
      generalize ((rs.take k).filter fun y => useB into y.rt).map RtH.rt = OUT at OWN K1 K2 PU
      generalize tkK lr (rthAt rs k).rt lr.length = tk at *
      generalize rthAt rs k = y at *
      obtain ⟨⟨⟨pa, pl⟩, proto, area, cost, second, cost2, tag, ha, hn, hcp⟩, hops⟩ := y
      simp only [rtE] at d0 d1 d2 d3 d4 d5 d6 d7 d8 PU BK ONE HW3 HW4 HB3 CEL TKW KEP
      go_upto_region 7 with fail
      rw [HW3.out]
      clear d0 d1 d2 d3 d4 d5 d6 d7 d8
      have r0 := blk_cell (i := 0) HB3.out rfl
      have r1 := blk_cell (i := 1) HB3.out rfl
      have r2 := blk_cell (i := 2) HB3.out rfl
      have r3 := blk_cell (i := 3) HB3.out rfl
      have r4 := blk_cell (i := 4) HB3.out rfl
      have r5 := blk_cell (i := 5) HB3.out rfl
      have r6 := blk_cell (i := 6) HB3.out rfl
      have r7 := blk_cell (i := 7) HB3.out rfl
      have r8 := blk_cell (i := 8) HB3.out rfl
      by_cases q1 : area = into
      · have e1 : (area == into) = true := by simpa using q1
        have NX := Lib.hid (SKP.out (by simp [useB, q1]))
        clear SKP PU OWN BK ONE K1 K2 BS TKW NON KEP CEL HW4 q1
        go_wp2_with fail
        go_roundw
        case rel => exact ⟨k + 1, by go_num, NX⟩
        case measure => simp [intOf]; have := KC.out; omega
      · have e1 : (area == into) = false := by simpa using q1
        have FC := Lib.hid (fun W => good_calls cost W)
        have UB : Hid (useB into (⟨⟨pa, pl⟩, proto, area, cost, second, cost2, tag, ha, hn, hcp⟩ : Rt) = goodB cost) := Lib.hid (by simp [useB, q1])
        clear q1
        cases hg : goodB cost with
        | false =>
          rw [hg] at FC UB
          have NX := Lib.hid (SKP.out UB.out)
          clear SKP PU OWN BK ONE K1 K2 BS TKW NON KEP CEL HW4 hg
          go_wp2_with fail
          refine (FC.out _).mono ?_
          rintro e w5 ⟨rfl, rfl⟩
          clear r0 r1 r2 r3 r4 r5 r6 r7 r8 y0 y2 FC
          go_wp2_with fail
          go_roundw
          case rel => exact ⟨k + 1, by go_num, NX⟩
          case measure => simp [intOf]; have := KC.out; omega
        | true =>
          rw [hg] at FC UB
          have PK := Lib.hid (fun v' w5 own' hg4 d => PU.out v' w5 UB.out own' hg4 d)
          have NONE := Lib.hid (NON.out UB.out)
          have KEEP := Lib.hid (KEP.out UB.out)
          clear SKP PU NON KEP hg
          go_upto_region 8 with fail
          refine (FC.out _).mono ?_
          rintro e w9 ⟨rfl, rfl⟩
          --AP
          go_upto_region 8 with fail
          go_upto_region 9 with (at_builtin; rw [HW4.out]; refine wpList_append_one rfl (.tmp 41) (.tmp 43) 27 rfl W1.heap.size 57 i0 (.agg #[.int .u32 0, .int .i64 0, .int .i64 0, .int .u32 0, .int .i64 0, .bool false, .int .i64 0, .int .i64 0, .slice none 0 0]) 9 88 Tryz.underlying27 ?g1 ?g2 ?g3 ?g4 ?g5 ?g6 vA OUT.length _ ?g7 OWN.out W3.heap.size [.int .u32 pa, .int .i64 pl, .int .i64 proto, .int .u32 area, .int .i64 cost, .bool second, .int .i64 cost2, .int .i64 tag, .slice ha hn hcp] 57 ?g8 BK.out ?g9 ONE.out K1.out K2.out BS.out ?_; (case g1 => exact HI0.out); (case g2 => exact HZ0.out); (case g3 => exact HZ1.out); (case g4 => exact HZ2.out); (case g5 => exact rfl); (case g6 => decide); (case g7 => exact rfl); (case g8 => exact rfl); (case g9 => exact rfl); intro v' w5 own' hg4 d; have NX := Lib.hid (PK.out v' w5 own' hg4 d); have CB := Lib.hid (CEL.out w5 hg4); have TC := Lib.hid (TKW.out w5 NX.out.row.bel); clear own' hg4 d)
          clear r0 r1 r2 r3 r4 r5 r6 r7 r8 y0 y2
          have r0 := blk_cell (i := 0) CB.out.1 rfl
          have r1 := blk_cell (i := 1) CB.out.1 rfl
          have r2 := blk_cell (i := 2) CB.out.1 rfl
          have r3 := blk_cell (i := 3) CB.out.1 rfl
          have r4 := blk_cell (i := 4) CB.out.1 rfl
          have r5 := blk_cell (i := 5) CB.out.1 rfl
          have r6 := blk_cell (i := 6) CB.out.1 rfl
          have r7 := blk_cell (i := 7) CB.out.1 rfl
          have r8 := blk_cell (i := 8) CB.out.1 rfl
          have y0 := blk_cell (i := 0) CB.out.2 rfl
          have y2 := blk_cell (i := 2) CB.out.2 rfl
          by_cases q3 : proto = 3
          · have c3 : (proto == 3) = true := by simpa using q3
            cases tk with
            | none =>
              simp only [tkI] at TC
              have OW : ownB into (⟨⟨pa, pl⟩, proto, area, cost, second, cost2, tag, ha, hn, hcp⟩ : Rt) (Option.isSome (none : Option Nat)) = true := by simp [ownB, q3]
              clear q3
              go_wp2_with fail
              refine TC.out.mono ?_
              rintro e w6 ⟨rfl, G6⟩
              have NX0 := Lib.hid (NX.out.below G6.b)
              have r0 := bcell G6.b r0
              have r1 := bcell G6.b r1
              have r3 := bcell G6.b r3
              have r2 := bcell G6.b r2
              have r4 := bcell G6.b r4
              have y0 := bcell G6.b y0
              clear NX G6 TC
              have NX := NX0
              clear NX0
              have KP := Lib.hid (KEEP.out OW)
              have BC := Lib.hid (fun W => body33_calls 3 pa pl router cost W)
              clear NONE KEEP OW
              go_wp2_with fail
              refine (BC.out _).mono ?_
              rintro e w6 ⟨rfl, B6⟩
              obtain ⟨L, hL, hn, hk⟩ := KP.out _ _ w6 (NX.out.below B6)
              have KC2 := Lib.hid (keep33_calls w6 _ L hL (by have := KC.out; have := N1.out; omega) (sumL router ⟨pa, pl⟩ cost))
              have HK := Lib.hid hk
              simp only [sumL, lsaE] at KC2
              clear B6 hL hn hk BC KP CB TKW CEL PK NX r0 r1 r2 r3 r4 r5 r6 r7 r8 y0 y2
              go_wp2_with fail
              refine KC2.out.mono ?_
              intro e w7 P7
              obtain ⟨v7, rfl, NX2⟩ := HK.out e w7 P7
              have NX3 := Lib.hid NX2
              clear P7 NX2 HK KC2
              go_wp2_with fail
              go_roundw
              case rel => exact ⟨k + 1, by go_num, NX3⟩
              case measure => simp [intOf]; have := KC.out; omega
            | some j =>
              have jn : decide ((j : Int) < 0) = false := decide_eq_false (by omega)
              have c4 : (proto == 4) = false := by simp [q3]
              simp only [tkI] at TC
              have OW : ownB into (⟨⟨pa, pl⟩, proto, area, cost, second, cost2, tag, ha, hn, hcp⟩ : Rt) (Option.isSome (some j)) = false := by simp [ownB, q3]
              clear q3
              go_wp2_with fail
              refine TC.out.mono ?_
              rintro e w6 ⟨rfl, G6⟩
              have NX0 := Lib.hid (NX.out.below G6.b)
              have r0 := bcell G6.b r0
              have r1 := bcell G6.b r1
              have r3 := bcell G6.b r3
              have r2 := bcell G6.b r2
              have r4 := bcell G6.b r4
              have y0 := bcell G6.b y0
              clear NX G6 TC
              have NX := NX0
              clear NX0
              have NX2 := Lib.hid (NONE.out OW _ _ NX.out)
              clear NONE KEEP CB TKW CEL PK NX OW
              go_wp2_with fail
              go_roundw
              case rel => exact ⟨k + 1, by go_num, NX2⟩
              case measure => simp [intOf]; have := KC.out; omega
          · have c3 : (proto == 3) = false := by simpa using q3
            by_cases q4 : proto = 4
            · have c4 : (proto == 4) = true := by simpa using q4
              by_cases q5 : into = 0
              · have c5 : (into != 0) = false := by simpa using q5
                have NX2 := Lib.hid (NONE.out (by simp [ownB, q4, q5]) _ _ NX.out)
                clear NONE KEEP CB TC TKW CEL PK NX q3 q4 q5
                go_wp2_with fail
                go_roundw
                case rel => exact ⟨k + 1, by go_num, NX2⟩
                case measure => simp [intOf]; have := KC.out; omega
              · have c5 : (into != 0) = true := by simpa using q5
                have KP := Lib.hid (KEEP.out (by simp [ownB, q4, q5]))
                have BC := Lib.hid (fun W => body33_calls 3 pa pl router cost W)
                clear NONE KEEP TC q3 q4 q5
                go_wp2_with fail
                refine (BC.out _).mono ?_
                rintro e w6 ⟨rfl, B6⟩
                obtain ⟨L, hL, hn, hk⟩ := KP.out _ _ w6 (NX.out.below B6)
                have KC2 := Lib.hid (keep33_calls w6 _ L hL (by have := KC.out; have := N1.out; omega) (sumL router ⟨pa, pl⟩ cost))
                have HK := Lib.hid hk
                simp only [sumL, lsaE] at KC2
                clear B6 hL hn hk BC KP CB TKW CEL PK NX r0 r1 r2 r3 r4 r5 r6 r7 r8 y0 y2
                go_wp2_with fail
                refine KC2.out.mono ?_
                intro e w7 P7
                obtain ⟨v7, rfl, NX2⟩ := HK.out e w7 P7
                have NX3 := Lib.hid NX2
                clear P7 NX2 HK KC2
                go_wp2_with fail
                go_roundw
                case rel => exact ⟨k + 1, by go_num, NX3⟩
                case measure => simp [intOf]; have := KC.out; omega
            · have c4 : (proto == 4) = false := by simpa using q4
              have NX2 := Lib.hid (NONE.out (by simp [ownB, q3, q4]) _ _ NX.out)
              clear NONE KEEP CB TC TKW CEL PK NX q3 q4
              go_wp2_with fail
              go_roundw
              case rel => exact ⟨k + 1, by go_num, NX2⟩
              case measure => simp [intOf]; have := KC.out; omega
    · --L2
      have ek : k = rs.length := by have := S.out.row.hk; omega
      subst ek
      have ALL := Lib.hid (S.out.row.routes HB1.out HRS.out)
      have BW := Lib.hid (HB1.out.trans (S.out.row.bel.mono HB1.out.size))
      have BX := Lib.hid ((S.out.row.bel.block _ (blk_lt HX1.out)).trans HX1.out)
      have T0 : Hid (SmB wr router (rgK lr into (sumK lr into rs rs.length).2 (sumK lr into rs rs.length).1 0) (fun _ => none) (rs.length + 0) vO wr) := Lib.hid ⟨S.out.out, Below.refl _ _⟩
      have QA : Hid (∀ i : Nat, actK lr i (rs.filter fun y => useB into y.rt) (rs.filter fun y => useB into y.rt).length = (sumK lr into rs rs.length).2 (i : Int)) := Lib.hid (fun i => act_sum FA.out.2.2.1 into FA.out.2.2.2 i)
      have FIN : Hid (∀ v' w' m, ¬ m < l.length → m ≤ l.length → SmB wr router (rgK lr into (sumK lr into rs rs.length).2 (sumK lr into rs rs.length).1 lr.length) (bndK router into l m) (rs.length + lr.length + m) v' w' → SuPost w ⟨router, ia, iN, ic, ra, lr.length, rc⟩ lr into rs l (.returned v') w') := Lib.hid (fun v' w' m h1 h2 S' => by
        have em : m = l.length := by omega
        subst em
        obtain ⟨L, g1, g2, -⟩ := S'.out
        exact ⟨v', L, rfl, g1, TbL.is (C := ⟨router, ia, iN, ic, ra, lr.length, rc⟩) g2, BW.out.trans (S'.bel.mono BW.out.size)⟩)
      clear S
      generalize hG : (sumK lr into rs rs.length).1 = G at *
      generalize hQ : (sumK lr into rs rs.length).2 = Q at *
      clear hG hQ
      obtain ⟨WL, hWL⟩ : ∃ WL, WL = wr := ⟨_, rfl⟩
      subst hWL
      have y2 := blk_cell (i := 2) BX.out rfl
      go_wp2_with fail
      clear y2
      go_loopw [9, 13] (fun vo iv wr => ∃ i : Nat, iv = .int .i64 i ∧ i ≤ lr.length ∧ Hid (SmB WL router (rgK lr into Q G i) (fun _ => none) (rs.length + i) vo wr)) (fun _ i _ => lr.length - (intOf i).toNat)
      case atStart => exact ⟨0, rfl, Nat.zero_le _, T0⟩
      case round =>
        clear T0
        obtain ⟨i, rfl, hi, S⟩ := hrel
        obtain ⟨vO2, hvO2⟩ : ∃ z, z = u9 := ⟨_, rfl⟩
        subst hvO2
        have bw := (S.out.bel.block _ (blk_lt BX.out)).trans BX.out
        have y2 := blk_cell (i := 2) bw rfl
        by_cases c : i < lr.length
        · obtain ⟨b, off, rfl, hb0, hcc⟩ := HC1.out (by omega)
          have BW3 := BW.out.trans (S.out.bel.mono BW.out.size)
          obtain ⟨d0, d1, d2, d3⟩ := (hcc i c).below BW3 hb0
          rw [← argAt_eq c] at d0 d1 d2 d3
          have hmem : argAt lr i ∈ lr := by rw [argAt_eq c]; exact List.getElem_mem c
          have hp : pfxOk (argAt lr i).pfx := pfxOk_rng (OKL.out _ hmem) (by have := validP_len (FA.out.2.2.1.1 _ hmem); omega)
          obtain ⟨W3, hW3⟩ : ∃ W3, wr.alloc (.cells (agE (argAt lr i)).toArray 77) = W3 := ⟨_, rfl⟩
          have B3 : Below wr.heap.size wr W3 := by rw [← hW3]; exact (Below.refl _ _).alloc (Nat.le_refl _) _
          have b3 : W3.heap[wr.heap.size]? = some (.cells (agE (argAt lr i)).toArray 77 (0, 0)) := by rw [← hW3]; exact alloc_new _ _
          have AC3 := Lib.hid (AC.out W3 (BW3.trans (B3.mono BW3.size)) i vA _ (ALL.out.below (S.out.bel.trans (B3.mono S.out.bel.size))) (fun y hy => OKR.out _ (List.mem_filter.1 hy).1))
          rw [QA.out i] at AC3
          have SKP := Lib.hid (fun W (hb : Below wr.heap.size wr W) => S.out.below hb)
          have SUM := Lib.hid (fun c => S.out.sum hp c)
          have KC := Lib.hid c
          have n0 : (0 : Int) ≤ (i : Int) := by omega
          have n1 : (i : Int) < (lr.length : Int) := by omega
          have n3 : ((i : Int)).toNat = i := by omega
          have EN : Hid (Q (i : Int) = none → rgK lr into Q G (i + 1) = rgK lr into Q G i) := Lib.hid (fun h => by show rgStep _ _ _ _ _ = _; unfold rgStep; rw [h])
          have ES : Hid (∀ c, Q (i : Int) = some c → ¬ ((argAt lr i).adv = true ∧ (argAt lr i).area ≠ into) → rgK lr into Q G (i + 1) = rgK lr into Q G i) := Lib.hid (fun c h h2 => by show rgStep _ _ _ _ _ = _; unfold rgStep; rw [h]; exact if_neg h2)
          have EK : Hid (∀ c, Q (i : Int) = some c → ((argAt lr i).adv = true ∧ (argAt lr i).area ≠ into) → rgK lr into Q G (i + 1) = leastF (rgK lr into Q G i) (argAt lr i).pfx c) := Lib.hid (fun c h h2 => by show rgStep _ _ _ _ _ = _; unfold rgStep; rw [h]; exact if_pos h2)
          have HW3 := Lib.hid hW3
          have HB3 := Lib.hid b3
          have HBW := Lib.hid ((B3.block _ (blk_lt bw)).trans bw)
          have LT3 := Lib.hid B3
          clear hcc hmem hp hW3 B3 b3 BW3 c bw S
          generalize Q (i : Int) = o at *
          generalize argAt lr i = g at *
          obtain ⟨ga, ⟨gp, gl⟩, gadv⟩ := g
          simp only [agE] at d0 d1 d2 d3 HW3 HB3 SUM ES EK
          go_upto_region 15 with fail
          rw [HW3.out]
          clear d0 d1 d2 d3 y2
          have y2 := blk_cell (i := 2) HBW.out rfl
          go_wp2_with fail
          refine AC3.out.mono ?_
          rintro e w5 ⟨rfl, G5⟩
          have HB5 := Lib.hid (LT3.out.trans (G5.b.mono LT3.out.size))
          have b5 := (G5.b.block _ (blk_lt HB3.out)).trans HB3.out
          have x5 := (G5.b.block _ (blk_lt HBW.out)).trans HBW.out
          have r0 := blk_cell (i := 0) b5 rfl
          have r1 := blk_cell (i := 1) b5 rfl
          have r2 := blk_cell (i := 2) b5 rfl
          have r3 := blk_cell (i := 3) b5 rfl
          have y0 := blk_cell (i := 0) x5 rfl
          have SK5 := Lib.hid (SKP.out w5 HB5.out)
          clear y2 G5 b5 x5 AC3 SKP HW3 HB3 HBW LT3
          cases o with
          | none =>
            simp only [Option.getD_none, Option.isSome_none]
            have EQ := Lib.hid (EN.out rfl)
            have NX := SK5
            rw [← EQ.out] at NX
            clear SUM EQ EK ES EN
            go_wp2_with fail
            go_roundw
            case rel => exact ⟨i + 1, by go_num, KC.out, NX⟩
            case measure => simp [intOf]; have := KC.out; omega
          | some c =>
            simp only [Option.getD_some, Option.isSome_some]
            cases gadv with
            | false =>
              have EQ := Lib.hid (ES.out c rfl (by simp))
              have NX := SK5
              rw [← EQ.out] at NX
              clear SUM EQ EK ES EN
              go_wp2_with fail
              go_roundw
              case rel => exact ⟨i + 1, by go_num, KC.out, NX⟩
              case measure => simp [intOf]; have := KC.out; omega
            | true =>
              by_cases q1 : ga = into
              · have e1 : (ga != into) = false := by simpa using q1
                have EQ := Lib.hid (ES.out c rfl (fun h => h.2 q1))
                clear q1
                have NX := SK5
                rw [← EQ.out] at NX
                clear SUM EQ EK ES EN
                go_wp2_with fail
                go_roundw
                case rel => exact ⟨i + 1, by go_num, KC.out, NX⟩
                case measure => simp [intOf]; have := KC.out; omega
              · have e1 : (ga != into) = true := by simpa using q1
                have EQ := Lib.hid (EK.out c rfl ⟨rfl, q1⟩)
                clear q1
                have BC := Lib.hid (fun W => body33_calls 3 gp gl router c W)
                clear ES EK EN SK5
                go_wp2_with fail
                refine (BC.out _).mono ?_
                rintro e w6 ⟨rfl, B6⟩
                obtain ⟨L, hn, hL, hk⟩ := SUM.out c
                have hb6 := HB5.out.trans (B6.mono HB5.out.size)
                have KC2 := Lib.hid (keep33_calls w6 _ L (hL.below hb6) (by have := KC.out; have := N1.out; have := N3.out; have := FA.out.1; omega) (sumL router ⟨gp, gl⟩ c))
                have HK := Lib.hid (hk w6 hb6)
                simp only [sumL, lsaE] at KC2
                clear B6 hL hn hk BC SUM hb6
                go_wp2_with fail
                refine KC2.out.mono ?_
                intro e w7 P7
                obtain ⟨v7, rfl, NX2⟩ := HK.out e w7 P7
                rw [← EQ.out] at NX2
                have NX3 := Lib.hid NX2
                clear P7 NX2 HK KC2 EQ r0 r1 r2 r3 y0
                go_wp2_with fail
                go_roundw
                case rel => exact ⟨i + 1, by go_num, KC.out, NX3⟩
                case measure => simp [intOf]; have := KC.out; omega
        · --L3
          have ei : i = lr.length := by omega
          subst ei
          have T3 : Hid (SmB WL router (rgK lr into Q G lr.length) (bndK router into l 0) (rs.length + lr.length + 0) vO2 wr) := Lib.hid ⟨S.out.out, S.out.bel⟩
          clear S
          obtain ⟨W9, hW9⟩ : ∃ W9, W9 = wr := ⟨_, rfl⟩
          subst hW9
          go_wp2_with fail
          clear y2 bw
          go_loopw [9, 17] (fun vo iv wr => ∃ m : Nat, iv = .int .i64 m ∧ m ≤ l.length ∧ Hid (SmB WL router (rgK lr into Q G lr.length) (bndK router into l m) (rs.length + lr.length + m) vo wr)) (fun _ i _ => l.length - (intOf i).toNat)
          case atStart => exact ⟨0, rfl, Nat.zero_le _, T3⟩
          case round =>
            clear T3
            obtain ⟨m, rfl, hm, S⟩ := hrel
            obtain ⟨vO3, hvO3⟩ : ∃ z, z = u9 := ⟨_, rfl⟩
            subst hvO3
            by_cases c : m < l.length
            · obtain ⟨b, off, rfl, hb0, hcc⟩ := HC3.out (by omega)
              have bw := (S.out.bel.block _ (blk_lt BX.out)).trans BX.out
              have BW3 := BW.out.trans (S.out.bel.mono BW.out.size)
              have up : ∀ {o : Nat} {u : Value}, w.cell? ⟨b, o, none⟩ = some u → wr.cell? ⟨b, o, none⟩ = some u := fun {o u} hh => (World.cell?_of_block (w := w) (w' := wr) (a := ⟨b, o, none⟩) (BW3.block b hb0)).trans hh
              obtain ⟨d0, d1, d2, d3, d4, d5, d6⟩ := hcc m c
              have d0 := up d0
              have d1 := up d1
              have d2 := up d2
              have d3 := up d3
              have d4 := up d4
              have d5 := up d5
              have d6 := up d6
              obtain ⟨W3, hW3⟩ : ∃ W3, wr.alloc (.cells (rchE l[m]).toArray 50) = W3 := ⟨_, rfl⟩
              have B3 : Below wr.heap.size wr W3 := by rw [← hW3]; exact (Below.refl _ _).alloc (Nat.le_refl _) _
              have b3 : W3.heap[wr.heap.size]? = some (.cells (rchE l[m]).toArray 50 (0, 0)) := by rw [← hW3]; exact alloc_new _ _
              have hw := OKW.out _ (List.getElem_mem c)
              have SKP := Lib.hid (S.out.below B3)
              have HB5 := Lib.hid B3
              have SUM := Lib.hid (S.out.bnd hw l[m].cost)
              have n0 : (0 : Int) ≤ (m : Int) := by omega
              have n1 : (m : Int) < (l.length : Int) := by omega
              have n3 : ((m : Int)).toNat = m := by omega
              have ES : Hid (bndB router into l[m] = false → bndK router into l (m + 1) = bndK router into l m) := Lib.hid (fun h => by rw [bndK_succ router into l c, h]; rfl)
              have EK : Hid (bndB router into l[m] = true → bndK router into l (m + 1) = leastF (bndK router into l m) l[m].router l[m].cost) := Lib.hid (fun h => by rw [bndK_succ router into l c, if_pos h])
              have KC := Lib.hid c
              have HW3 := Lib.hid hW3
              have x3 := (B3.block _ (blk_lt bw)).trans bw
              have y0 := blk_cell (i := 0) x3 rfl
              have HB3 := Lib.hid b3
              clear hcc hW3 B3 b3 BW3 bw S up hw x3
              generalize l[m] = x at *
              clear c
              obtain ⟨xr, xa, xi, xb, xo, xc, xha, xhn, xhc, xh⟩ := x
              simp only [rchE] at d0 d1 d2 d3 d4 d5 d6 HW3 HB3 SUM EK
              go_upto_region 22 with fail
              rw [HW3.out]
              clear d0 d1 d2 d3 d4 d5 d6
              have r0 := blk_cell (i := 0) HB3.out rfl
              have r1 := blk_cell (i := 1) HB3.out rfl
              have r2 := blk_cell (i := 2) HB3.out rfl
              have r4 := blk_cell (i := 4) HB3.out rfl
              have r5 := blk_cell (i := 5) HB3.out rfl
              have FC := Lib.hid (fun W => good_calls xc W)
              clear HB3 HW3
              cases xo with
              | false =>
                have EQ := Lib.hid (ES.out (by simp [bndB]))
                have NX := SKP
                rw [← EQ.out] at NX
                clear SUM EQ EK ES FC
                go_wp2_with fail
                go_roundw
                case rel => exact ⟨m + 1, by go_num, KC.out, NX⟩
                case measure => simp [intOf]; have := KC.out; omega
              | true =>
                by_cases q1 : xr = router
                · have e1 : (xr != router) = false := by simpa using q1
                  have EQ := Lib.hid (ES.out (by simp [bndB, q1]))
                  clear q1
                  have NX := SKP
                  rw [← EQ.out] at NX
                  clear SUM EQ EK ES FC
                  go_wp2_with fail
                  go_roundw
                  case rel => exact ⟨m + 1, by go_num, KC.out, NX⟩
                  case measure => simp [intOf]; have := KC.out; omega
                · have e1 : (xr != router) = true := by simpa using q1
                  by_cases q2 : xa = into
                  · have e2 : (xa != into) = false := by simpa using q2
                    have EQ := Lib.hid (ES.out (by simp [bndB, q2]))
                    clear q1 q2
                    have NX := SKP
                    rw [← EQ.out] at NX
                    clear SUM EQ EK ES FC
                    go_wp2_with fail
                    go_roundw
                    case rel => exact ⟨m + 1, by go_num, KC.out, NX⟩
                    case measure => simp [intOf]; have := KC.out; omega
                  · have e2 : (xa != into) = true := by simpa using q2
                    cases xi with
                    | false =>
                      have UB : Hid (bndB router into (⟨xr, xa, false, xb, true, xc, xha, xhn, xhc, xh⟩ : Rch) = goodB xc) := Lib.hid (by simp [bndB, q1, q2])
                      clear q1 q2
                      cases hg : goodB xc with
                      | false =>
                        rw [hg] at FC UB
                        have EQ := Lib.hid (ES.out UB.out)
                        have NX := SKP
                        rw [← EQ.out] at NX
                        clear SUM EQ EK ES SKP UB hg
                        go_wp2_with fail
                        refine (FC.out _).mono ?_
                        rintro e w5 ⟨rfl, rfl⟩
                        clear FC r0 r1 r2 r4 r5 y0
                        go_wp2_with fail
                        go_roundw
                        case rel => exact ⟨m + 1, by go_num, KC.out, NX⟩
                        case measure => simp [intOf]; have := KC.out; omega
                      | true =>
                        rw [hg] at FC UB
                        have EQ := Lib.hid (EK.out UB.out)
                        clear SKP UB hg
                        go_upto_region 23 with fail
                        refine (FC.out _).mono ?_
                        rintro e w5 ⟨rfl, rfl⟩
                        clear FC
                        have BC := Lib.hid (fun W => body33_calls 4 xr 0 router xc W)
                        clear ES EK 
                        go_wp2_with fail
                        refine (BC.out _).mono ?_
                        rintro e w6 ⟨rfl, B6⟩
                        obtain ⟨L, hn, hL, hk⟩ := SUM.out
                        have hb6 := HB5.out.trans (B6.mono HB5.out.size)
                        have KC2 := Lib.hid (keep33_calls w6 _ L (hL.below hb6) (by have := KC.out; have := N1.out; have := N3.out; have := FA.out.1; omega) (bndL router xr xc))
                        have HK := Lib.hid (hk w6 hb6)
                        simp only [bndL, lsaE] at KC2
                        clear B6 hL hn hk BC SUM hb6
                        go_wp2_with fail
                        refine KC2.out.mono ?_
                        intro e w7 P7
                        obtain ⟨v7, rfl, NX2⟩ := HK.out e w7 P7
                        rw [← EQ.out] at NX2
                        have NX3 := Lib.hid NX2
                        clear P7 NX2 HK KC2 EQ r0 r1 r2 r4 r5 y0
                        go_wp2_with fail
                        go_roundw
                        case rel => exact ⟨m + 1, by go_num, KC.out, NX3⟩
                        case measure => simp [intOf]; have := KC.out; omega
                    | true =>
                      by_cases q3 : into = 0
                      · have e3 : (into != 0) = false := by simpa using q3
                        have EQ := Lib.hid (ES.out (by simp [bndB, q3]))
                        clear q1 q2 q3
                        have NX := SKP
                        rw [← EQ.out] at NX
                        clear SUM EQ EK ES FC
                        go_wp2_with fail
                        go_roundw
                        case rel => exact ⟨m + 1, by go_num, KC.out, NX⟩
                        case measure => simp [intOf]; have := KC.out; omega
                      · have e3 : (into != 0) = true := by simpa using q3
                        have UB : Hid (bndB router into (⟨xr, xa, true, xb, true, xc, xha, xhn, xhc, xh⟩ : Rch) = goodB xc) := Lib.hid (by simp [bndB, q1, q2, q3])
                        clear q1 q2 q3
                        cases hg : goodB xc with
                        | false =>
                          rw [hg] at FC UB
                          have EQ := Lib.hid (ES.out UB.out)
                          have NX := SKP
                          rw [← EQ.out] at NX
                          clear SUM EQ EK ES SKP UB hg
                          go_wp2_with fail
                          refine (FC.out _).mono ?_
                          rintro e w5 ⟨rfl, rfl⟩
                          clear FC r0 r1 r2 r4 r5 y0
                          go_wp2_with fail
                          go_roundw
                          case rel => exact ⟨m + 1, by go_num, KC.out, NX⟩
                          case measure => simp [intOf]; have := KC.out; omega
                        | true =>
                          rw [hg] at FC UB
                          have EQ := Lib.hid (EK.out UB.out)
                          clear SKP UB hg
                          go_upto_region 23 with fail
                          refine (FC.out _).mono ?_
                          rintro e w5 ⟨rfl, rfl⟩
                          clear FC
                          have BC := Lib.hid (fun W => body33_calls 4 xr 0 router xc W)
                          clear ES EK 
                          go_wp2_with fail
                          refine (BC.out _).mono ?_
                          rintro e w6 ⟨rfl, B6⟩
                          obtain ⟨L, hn, hL, hk⟩ := SUM.out
                          have hb6 := HB5.out.trans (B6.mono HB5.out.size)
                          have KC2 := Lib.hid (keep33_calls w6 _ L (hL.below hb6) (by have := KC.out; have := N1.out; have := N3.out; have := FA.out.1; omega) (bndL router xr xc))
                          have HK := Lib.hid (hk w6 hb6)
                          simp only [bndL, lsaE] at KC2
                          clear B6 hL hn hk BC SUM hb6
                          go_wp2_with fail
                          refine KC2.out.mono ?_
                          intro e w7 P7
                          obtain ⟨v7, rfl, NX2⟩ := HK.out e w7 P7
                          rw [← EQ.out] at NX2
                          have NX3 := Lib.hid NX2
                          clear P7 NX2 HK KC2 EQ r0 r1 r2 r4 r5 y0
                          go_wp2_with fail
                          go_roundw
                          case rel => exact ⟨m + 1, by go_num, KC.out, NX3⟩
                          case measure => simp [intOf]; have := KC.out; omega
            · have FI := Lib.hid (FIN.out vO3 wr m c hm S.out)
              clear S
              go_wp2_with fail
              go_ret
              exact FI.out

end Go.Proofs.YtogdconliofblaaGreat

namespace Go.Proofs.YtogdconliofblaaGreat
open Go.RowKit

set_option maxHeartbeats 4000000 in
set_option maxRecDepth 100000 in
theorem isum_law (w : World) (C : Cfg) (lr : List Arg) (hlr : RngsAt w (.slice C.ra C.rn C.rc) lr) (okl : ∀ o ∈ lr, OkP o.pfx) (into : Int) (vr : Value) (rs : List RtH) (hr : RoutesAt w vr rs) (okr : ∀ y ∈ rs, OkP y.rt.pfx)
    (vi : Value) (l : List Rch) (hl : ReachAt w vi l) (okw : ∀ x ∈ l, u32Ok x.router) (n3 : l.length ≤ 2097152) :
    Calls Tryz.prog 3 #[.agg (cfgE C).toArray, .int .u32 into, vr, vi] w (LivPost w) := by
  have CF := Lib.hid (fun W (hb : Below w.heap.size w W) => lfine_calls W C lr (hlr.below hb) okl vr rs (hr.below hb) okr)
  have SU1 := Lib.hid (fun (F : LFine lr rs) W (hb : Below w.heap.size w W) => summaries_calls W C lr (hlr.below hb) (fun o ho => ⟨okl o ho, pfxOk_rng (okl o ho) (by have := validP_len (F.2.2.1.1 o ho); omega)⟩) into vr rs (hr.below hb) (fun y hy => ⟨okr y hy, pfxOk_rng (okr y hy) (by have := validP_len (F.2.2.2 y hy); omega)⟩) F.2.1 F.1 vi l (hl.below hb) okw n3)
  have SU2 := Lib.hid (fun (F : LFine lr rs) W (hb : Below w.heap.size w W) => rsummaries_calls W C lr (hlr.below hb) F okl into vr rs rfl (hr.below hb) okr vi l (hl.below hb) okw n3)
  have LV := Lib.hid (fun W => lives_calls W)
  obtain ⟨a2, c2, rfl, hl2, -⟩ := hr.get
  obtain ⟨a3, c3, rfl, hl3, -⟩ := hl.get
  have mixed : Tryz.prog.follows .mixedOrders = true := by kernel_rfl
  clear hlr hr okl okr hl okw n3
  obtain ⟨router, ia, iN, ic, ra, rn, rc⟩ := C
  obtain ⟨WA, hWA⟩ : ∃ WA, w.alloc (.cells #[.int .u32 router, .slice ia iN ic, .slice ra rn rc] 26) = WA := ⟨_, rfl⟩
  have BA : Below w.heap.size w WA := by rw [← hWA]; exact (Below.refl _ _).alloc (Nat.le_refl _) _
  have bA : WA.heap[w.heap.size]? = some (.cells #[.int .u32 router, .slice ia iN ic, .slice ra rn rc] 26 (0, 0)) := by rw [← hWA]; exact alloc_new w _
  have F1 := Lib.hid (CF.out WA BA)
  simp only [cfgE] at F1 SU1 SU2 ⊢
  have y0 := blk_cell (i := 0) bA rfl
  have y1 := blk_cell (i := 1) bA rfl
  have y2 := blk_cell (i := 2) bA rfl
  have HWA := Lib.hid hWA
  have HBA := Lib.hid BA
  have HXA := Lib.hid bA
  clear hWA BA bA CF
  go_enter Tryz.func3, Tryz.ntmps3
  go_upto_region 1 with fail
  rw [HWA.out]
  go_wp2_with fail
  refine F1.out.mono ?_
  rintro e w1 ⟨b1, rfl, B1, K1⟩
  have HB1 := Lib.hid (HBA.out.trans (B1.mono HBA.out.size))
  have HX1 := Lib.hid ((B1.block _ (blk_lt HXA.out)).trans HXA.out)
  clear y0 y1 y2 F1 HWA HXA
  cases b1 with
  | false =>
    clear B1 K1 SU1 SU2
    go_wp2_with fail
    refine (LV.out _).mono ?_
    rintro e w9 ⟨rfl, B9⟩
    have FIN := Lib.hid (HB1.out.trans (B9.mono HB1.out.size))
    clear B9
    go_wp2_with fail
    go_ret
    exact ⟨rfl, FIN.out⟩
  | true =>
    have FA := Lib.hid (K1 rfl)
    have SA1 := Lib.hid (SU1.out FA.out)
    have SA2 := Lib.hid (SU2.out FA.out)
    clear B1 K1 SU1 SU2
    have k0 := blk_cell (i := 0) HX1.out rfl
    have k1 := blk_cell (i := 1) HX1.out rfl
    have k2 := blk_cell (i := 2) HX1.out rfl
    have C1 := Lib.hid (fun (W : World) (hb : Below w1.heap.size w1 W) => SA1.out W (HB1.out.trans (hb.mono HB1.out.size)))
    have C2 := Lib.hid (fun (W : World) (hb : Below w1.heap.size w1 W) => SA2.out W (HB1.out.trans (hb.mono HB1.out.size)))
    have EQ := Lib.hid (fun (W1 W2 : World) (v1 v2 : Value) (L1 L2 : List Lsa) (h1 : LsasAt W1 v1 L1) (h2 : LsasAt W2 v2 L2) (hb : Below W1.heap.size W1 W2) (i1 : SuIs ⟨router, ia, iN, ic, ra, rn, rc⟩ lr into rs l L1) (i2 : SuIs ⟨router, ia, iN, ic, ra, rn, rc⟩ lr into rs l L2) => (by
      obtain rfl := i1.one i2 rfl
      exact equal_calls W2 v1 v2 L1 (h1.below hb) h2 i1.bare : Calls Tryz.prog 11 #[v1, v2] W2 fun e w' => e = .returned (.bool true) ∧ Gr W2 w'))
    clear SA1 SA2
    go_wp2_with fail
    go_region_held3 (fun W' => W'.cell? ⟨w.heap.size, 0, none⟩ = some (.int .u32 router) ∧ W'.cell? ⟨w.heap.size, 1, none⟩ = some (.slice ia iN ic) ∧ W'.cell? ⟨w.heap.size, 2, none⟩ = some (.slice ra rn rc)) (first | with_reducible exact ⟨k0, k1, k2⟩ | with_reducible exact ⟨m0, m1, m2⟩ | with_reducible exact ⟨s0, s1, s2⟩ | with_reducible exact ⟨t0, t1, t2⟩ | with_reducible exact ⟨x0, x1, x2⟩ | go_keep)
      (first
      | (go_at_call 12; ((with_reducible refine (C1.out w1.drew (Below.refl _ _).drew).mono ?_)); rintro e w2 ⟨v2, L2, rfl, O2, I2, B2⟩; have D2 : Below w1.heap.size w1 w2 := (Below.refl _ _).drew.trans B2; have HD2 := Lib.hid D2; have HO2 := Lib.hid O2; have HI2 := Lib.hid I2; have m0 := bcell B2 k0; have m1 := bcell B2 k1; have m2 := bcell B2 k2; have C3 := Lib.hid (C2.out w2 D2); clear B2 D2 O2 I2)
      | (go_at_call 13; ((with_reducible refine C3.out.mono ?_)); rintro e w3 ⟨v3, L3, rfl, O3, I3, B3⟩; have HD3 := Lib.hid (HD2.out.trans (B3.mono HD2.out.size)); have s0 := bcell B3 m0; have s1 := bcell B3 m1; have s2 := bcell B3 m2; have E3 := Lib.hid (EQ.out w2 w3 v2 v3 L2 L3 HO2.out O3 B3 HI2.out I3); clear B3 O3 I3)
      | (go_at_call 11; ((with_reducible refine E3.out.mono ?_)); rintro e w4 ⟨rfl, G4⟩; have HD4 := Lib.hid (HD3.out.trans (G4.b.mono HD3.out.size)); have t0 := bcell G4.b s0; have t1 := bcell G4.b s1; have t2 := bcell G4.b s2; clear G4)
      | (go_at_call 10; ((with_reducible refine (LV.out w4).mono ?_)); rintro e w5 ⟨rfl, B5⟩; have FIN := Lib.hid (HB1.out.trans ((HD4.out.trans (B5.mono HD4.out.size)).mono HB1.out.size)); have x0 := bcell B5 t0; have x1 := bcell B5 t1; have x2 := bcell B5 t2; clear B5))
    go_wp2_with fail
    go_ret
    exact ⟨rfl, FIN.out⟩

end Go.Proofs.YtogdconliofblaaGreat
