/-
  routingref33.Choose.
-/
import Derived.Test.YtogdconliofblaaGreatChq
import Derived.Test.YtogdconliofblaaGreatChw
import Derived.Test.YtogdconliofblaaGreatPf2
import Derived.Test.YtogdconliofblaaGreatBs3
namespace Go.Proofs.YtogdconliofblaaGreat
open Go.RowKit

/-- a route's prefix as an offer -/
def mkO (x : RtH) : OfP := ⟨x.rt.pfx, 0, none, 0, 0, []⟩
structure OfC (W1 : World) (L : List RtH) (k : Nat) (v : Value) (wr : World) : Prop where
  own : wr.ownsRow W1.heap.size 113 4 v k (((L.take k).map mkO).map ofrE).flatten
  bel : Below W1.heap.size W1 wr
theorem OfC.start (W1 : World) (L : List RtH) : OfC W1 L 0 (.slice (some ⟨W1.heap.size, 0, none⟩) 0 0) (W1.alloc (.cells #[] 113)) := by
  refine ⟨?_, (Below.refl _ _).alloc (Nat.le_refl _) _⟩
  have := World.ownsRow_made (size := 4) (e := 113) (base := W1.heap.size) W1 #[] 0 (by simp) (by unfold maxLen; omega) rfl
  simpa using this
theorem OfC.push {W1 : World} {L : List RtH} {k : Nat} {v v' : Value} {wr W w4 : World} (R : OfC W1 L k v wr) (c : k < L.length) (hb : Below wr.heap.size wr W)
    (own' : w4.ownsRow W1.heap.size 113 4 v' (k + 1) ((((L.take k).map mkO).map ofrE).flatten ++ [.int .u32 (rthAt L k).rt.pfx.addr, .int .i64 (rthAt L k).rt.pfx.len, .int .i64 0, .slice none 0 0])) (hg4 : W.grownBy w4 v.ownBlock) : OfC W1 L (k + 1) v' w4 := by
  refine ⟨?_, (R.bel.trans (hb.mono R.bel.size)).grown hg4 (Nat.le_trans R.bel.size hb.size) (fun j hj => (World.ownsRow.lt R.own j hj).1)⟩
  rw [List.take_succ_eq_append_getElem c, ← rthAt_eq c]
  simpa [mkO, ofrE] using own'
theorem OfC.own2 {W1 : World} {L : List RtH} {k : Nat} {v : Value} {wr W : World} (R : OfC W1 L k v wr) (hb : Below wr.heap.size wr W) : W.ownsRow W1.heap.size 113 4 v k (((L.take k).map mkO).map ofrE).flatten :=
  World.ownsRow.kept (row := none) R.own (grown_of_below hb none) (by cases v.ownBlock <;> simp)
theorem OfC.below {W1 : World} {L : List RtH} {k : Nat} {v : Value} {wr W : World} (R : OfC W1 L k v wr) (hb : Below wr.heap.size wr W) : OfC W1 L k v W := ⟨R.own2 hb, R.bel.trans (hb.mono R.bel.size)⟩
theorem OfC.fin {W1 : World} {L : List RtH} {v : Value} {wr : World} (R : OfC W1 L L.length v wr) : OffsGet wr v (L.map fun x => x.rt.pfx) := by
  have h := R.own
  rw [List.take_length] at h
  have A : OfrAt wr v (L.map mkO) := ⟨SlV.of_own (base := W1.heap.size) (e := 113) (fun cs hcs => by obtain ⟨o, _, rfl⟩ := List.mem_map.1 hcs; rfl) (by simpa using h), fun x hx => by
    obtain ⟨y, _, rfl⟩ := List.mem_map.1 hx
    exact hopsNone _⟩
  have h2 := A.prefixes
  rw [List.map_map] at h2
  exact h2

theorem rts_start (w : World) : RtsOwn w.heap.size (w.alloc (.cells #[] 57)) (.slice (some ⟨w.heap.size, 0, none⟩) 0 0) [] := (OutR.start w).own

theorem cat_1 {w w1 w2 : World} {la : List Rt} {v v' : Value} (B : Below w.heap.size w w1) (O : RtsOwn w.heap.size w1 v []) (O2 : w2.ownsRow w.heap.size 57 9 v' (0 + (la.map rtE).length) ([] ++ (la.map rtE).flatten)) (G : w1.grownBy w2 v.ownBlock) : RtsOwn w.heap.size w2 v' la ∧ Below w.heap.size w w2 :=
  ⟨by rw [List.length_map, Nat.zero_add, List.nil_append] at O2; exact O2, Below.owned B B.size O G⟩
theorem cat_2 {w w1 w2 : World} {la lb : List Rt} {v v' : Value} (B : Below w.heap.size w w1) (O : RtsOwn w.heap.size w1 v la) (O2 : w2.ownsRow w.heap.size 57 9 v' (la.length + (lb.map rtE).length) ((la.map rtE).flatten ++ (lb.map rtE).flatten)) (G : w1.grownBy w2 v.ownBlock) : RtsOwn w.heap.size w2 v' (la ++ lb) ∧ Below w.heap.size w w2 :=
  ⟨by rw [List.length_map] at O2; unfold RtsOwn; rw [List.length_append, List.map_append, List.flatten_append]; exact O2, Below.owned B B.size O G⟩

theorem ck_tb (A : Nat → Rp) (j i : Nat) : ∃ tb : Bool, (tb = true ↔ (A j).pfx = (A i).pfx ∧ (A j).proto = (A i).proto ∧ (A j).cost = (A i).cost) ∧ (tb = true → (A j).ck = (A i).ck) ∧ (tb = false → (A j).ck ≠ (A i).ck) := by
  refine ⟨decide ((A j).pfx = (A i).pfx ∧ (A j).proto = (A i).proto ∧ (A j).cost = (A i).cost), decide_eq_true_iff, fun h => ?_, fun h e => ?_⟩
  · obtain ⟨h1, h2, h3⟩ := of_decide_eq_true h
    show (⟨_, _, _⟩ : Ck) = ⟨_, _, _⟩
    rw [h1, h2, h3]
  · exact of_decide_eq_false h ⟨congrArg Ck.pfx e, congrArg Ck.proto e, congrArg Ck.cost e⟩

def RchPost (w : World) (L : List RtH) (e : Ending) (w' : World) : Prop :=
  ∃ v l, e = .returned v ∧ RoutesAt w' v l ∧ ChIs (chA L) (fun i => i < L.length) (l.map RtH.pure) ∧ Below w.heap.size w w'

set_option maxHeartbeats 16000000 in
set_option maxRecDepth 100000 in
theorem rchoose_calls (w : World) (va vb : Value) (la lb : List RtH) (ha : RoutesAt w va la) (hb : RoutesAt w vb lb) (M : Nat) (hM : ∀ x ∈ la ++ lb, x.hops.length ≤ M) (hN : (la ++ lb).length ≤ 400) (hn : M ≤ 1048576000) :
    Calls Tryz.prog 25 #[va, vb] w (RchPost w (la ++ lb)) := by
  obtain ⟨i0, hi0, hz0, hz1, hz2⟩ := info_parts Tryz.infoRt
  have HI0 := Lib.hid hi0
  have HZ0 := Lib.hid hz0
  have HZ1 := Lib.hid hz1
  have HZ2 := Lib.hid hz2
  clear hi0 hz0 hz1 hz2
  obtain ⟨j0, hi0, hz0, hz1, hz2⟩ := info_parts Tryz.infoOffer
  have JI0 := Lib.hid hi0
  have JZ0 := Lib.hid hz0
  have JZ1 := Lib.hid hz1
  have JZ2 := Lib.hid hz2
  clear hi0 hz0 hz1 hz2
  have RA : Hid (RtsAt w va (la.map RtH.rt)) := Lib.hid (by have := ha.sl; unfold RtsAt; rw [List.map_map]; exact this)
  have RB : Hid (RtsAt w vb (lb.map RtH.rt)) := Lib.hid (by have := hb.sl; unfold RtsAt; rw [List.map_map]; exact this)
  have HH : Hid (∀ x ∈ la ++ lb, HopsAt w x.rt.hv x.hops) := Lib.hid (fun x hx => by
    rcases List.mem_append.1 hx with h | h
    · exact ha.hops x h
    · exact hb.hops x h)
  have HM := Lib.hid hM
  have HNN := Lib.hid hN
  have n1 : la.length + lb.length ≤ 400 := by rw [List.length_append] at hN; exact hN
  have ML : Hid (la.map RtH.rt ++ lb.map RtH.rt = (la ++ lb).map RtH.rt) := Lib.hid (by rw [List.map_append])
  obtain ⟨aa, ca, ea, -⟩ := ha.get
  obtain ⟨ab, cb, eb, -⟩ := hb.get
  subst ea eb
  clear ha hb hM hN
  obtain ⟨WA, hWA⟩ : ∃ WA, w.alloc (.cells #[] 57) = WA := ⟨_, rfl⟩
  have BA : Below w.heap.size w WA := by rw [← hWA]; exact (Below.refl _ _).alloc (Nat.le_refl _) _
  have OA : RtsOwn w.heap.size WA (.slice (some ⟨w.heap.size, 0, none⟩) 0 0) [] := by rw [← hWA]; exact rts_start w
  have HOA := Lib.hid OA
  have HBA := Lib.hid BA
  have RAA := Lib.hid (RA.out.below BA)
  have RBA := Lib.hid (RB.out.below BA)
  have K1 : Hid (0 + ((la.map RtH.rt).map rtE).length ≤ maxLen) := Lib.hid (by simp only [List.length_map]; unfold maxLen; omega)
  have K2 : Hid ((0 + ((la.map RtH.rt).map rtE).length) * 88 ≤ 140737488355328) := Lib.hid (by simp only [List.length_map]; omega)
  have K3 : Hid ((la.map RtH.rt).length + ((lb.map RtH.rt).map rtE).length ≤ maxLen) := Lib.hid (by simp only [List.length_map]; unfold maxLen; omega)
  have K4 : Hid (((la.map RtH.rt).length + ((lb.map RtH.rt).map rtE).length) * 88 ≤ 140737488355328) := Lib.hid (by simp only [List.length_map]; omega)
  have HWA := Lib.hid hWA
  clear hWA BA OA
  go_enter Tryz.func25, Tryz.ntmps25
  go_upto_region 2 with (at_builtin; first
    | (rw [HWA.out]; refine wpList_append_sl rfl (.tmp 16) (.tmp 17) _ rfl w.heap.size 57 i0 _ 9 88 Tryz.underlying27 HI0.out HZ0.out HZ1.out HZ2.out rfl (by decide) _ 0 [] rfl HOA.out _ ((la.map RtH.rt).map rtE) rfl RAA.out (rtE_len _) (rtE_ones _) K1.out K2.out HBA.out.size ?_; intro v1 w1 O1 G1; have P1 := Lib.hid (cat_1 HBA.out HOA.out O1 G1); clear O1 G1; have RB1 := Lib.hid (RB.out.below P1.out.2))
    | (refine wpList_append_sl rfl (.tmp 18) (.tmp 19) _ rfl w.heap.size 57 i0 _ 9 88 Tryz.underlying27 HI0.out HZ0.out HZ1.out HZ2.out rfl (by decide) _ (la.map RtH.rt).length _ rfl P1.out.1 _ ((lb.map RtH.rt).map rtE) rfl RB1.out (rtE_len _) (rtE_ones _) K3.out K4.out P1.out.2.size ?_; intro vL w2 O2 G2; have P2 := Lib.hid (cat_2 P1.out.2 P1.out.1 O2 G2); clear O2 G2))
  rw [ML.out] at P2
  clear P1 RB1 K1 K2 K3 K4 HWA RAA RBA HOA HBA RA RB ML
  generalize la ++ lb = L at *
  have RL : RoutesAt w2 vL L := by
    refine ⟨?_, fun x hx => (HH.out x hx).below P2.out.2⟩
    have h := P2.out.1.at
    unfold RtsAt at h
    rw [List.map_map] at h
    exact h
  obtain ⟨xa, xcap, ex, -, hc⟩ := RL.get
  subst ex
  have HC := Lib.hid hc
  have HRL := Lib.hid RL
  obtain ⟨W3, hW3⟩ : ∃ W3, w2.alloc (.cells #[] 113) = W3 := ⟨_, rfl⟩
  have S0 : Hid (OfC w2 L 0 (.slice (some ⟨w2.heap.size, 0, none⟩) 0 0) W3) := Lib.hid (by rw [← hW3]; exact OfC.start w2 L)
  have n4 : L.length ≤ 400 := HNN.out
  clear RL hc
  go_upto_region 3 with fail
  clear hW3
  go_wp2_with fail
  go_loopw [6, 7] (fun vo iv wr => ∃ k : Nat, iv = .int .i64 k ∧ k ≤ L.length ∧ Hid (OfC w2 L k vo wr)) (fun _ iv _ => L.length - (intOf iv).toNat)
  case atStart => exact ⟨0, rfl, Nat.zero_le _, S0⟩
  case round =>
    clear S0
    obtain ⟨k, rfl, hk, S⟩ := hrel
    obtain ⟨vO, hvO⟩ : ∃ z, z = u6 := ⟨_, rfl⟩
    subst hvO
    by_cases c : k < L.length
    · obtain ⟨b, off, rfl, hb0, hcc⟩ := HC.out (by omega)
      have hcc := (hcc k c).below S.out.bel hb0
      rw [← rthAt_eq c] at hcc
      have PU := Lib.hid (fun v' W w4 hb own' hg4 => S.out.push (v' := v') (W := W) (w4 := w4) c hb own' hg4)
      have OWN := Lib.hid (fun W' (hb : Below wr.heap.size wr W') => S.out.own2 hb)
      have BSZ := Lib.hid S.out.bel.size
      generalize rthAt L k = x at *
      obtain ⟨⟨⟨pa, pl⟩, r1, r2, r3, r4, r5, r6, ha, rn, rc⟩, hs⟩ := x
      obtain ⟨e0, e1, -⟩ := hcc
      simp only at e0 e1
      have KC := Lib.hid c
      have n0 : (0 : Int) ≤ (k : Int) := by omega
      have n1 : (k : Int) < (L.length : Int) := by omega
      have n3 : ((k : Int)).toNat = k := by omega
      obtain ⟨W9, hW9⟩ : ∃ W9, wr.alloc (.cells #[.int .u32 pa, .int .i64 pl, .int .i64 0, .slice none 0 0] 113) = W9 := ⟨_, rfl⟩
      have B9 : Below wr.heap.size wr W9 := by rw [← hW9]; exact (Below.refl _ _).alloc (Nat.le_refl _) _
      have BK : Hid (W9.heap[wr.heap.size]? = some (.cells (List.toArray [.int .u32 pa, .int .i64 pl, .int .i64 0, .slice none 0 0]) 113 (0, 0))) := Lib.hid (by rw [← hW9]; exact alloc_new wr _)
      have OW9 := Lib.hid (OWN.out W9 B9)
      have ONE : Hid (∀ u ∈ ([.int .u32 pa, .int .i64 pl, .int .i64 0, .slice none 0 0] : List Value), u.oneCell' = true) := Lib.hid (fun u hu => by simp at hu; rcases hu with rfl | rfl | rfl | rfl <;> rfl)
      have K1 : Hid (k + 1 ≤ maxLen) := Lib.hid (by unfold maxLen; omega)
      have K2 : Hid ((k + 1) * 48 ≤ 140737488355328) := Lib.hid (by omega)
      have BS : Hid (w2.heap.size ≤ W9.heap.size) := Lib.hid (Nat.le_trans BSZ.out B9.size)
      have PK := Lib.hid (fun v' w4 own' hg4 => PU.out v' W9 w4 B9 own' hg4)
      have HW9 := Lib.hid hW9
      clear hW9 B9 PU OWN BSZ S
      go_wp2_with (at_builtin; rw [HW9.out]; refine wpList_append_one rfl (.tmp 28) (.tmp 35) 111 rfl w2.heap.size 113 j0 (.agg #[.int .u32 0, .int .i64 0, .int .i64 0, .slice none 0 0]) 4 48 Tryz.underlying111 ?g1 ?g2 ?g3 ?g4 ?g5 ?g6 vO k _ ?g7 OW9.out wr.heap.size [.int .u32 pa, .int .i64 pl, .int .i64 0, .slice none 0 0] 113 ?g8 BK.out ?g9 ONE.out K1.out K2.out BS.out ?_; (case g1 => exact JI0.out); (case g2 => exact JZ0.out); (case g3 => exact JZ1.out); (case g4 => exact JZ2.out); (case g5 => exact rfl); (case g6 => decide); (case g7 => exact rfl); (case g8 => exact rfl); (case g9 => exact rfl); intro v' w4 own' hg4 d; have NX := Lib.hid (PK.out v' w4 own' hg4); clear own' hg4 d)
      go_roundw
      case rel => exact ⟨k + 1, by go_num, by have := KC.out; omega, NX⟩
      case measure => simp [intOf]; have := KC.out; omega
    · obtain rfl : k = L.length := by omega
      obtain ⟨wB, hwB⟩ : ∃ x, x = wr := ⟨_, rfl⟩
      subst hwB
      have HBB := Lib.hid (P2.out.2.trans (S.out.bel.mono P2.out.2.size))
      have HB2 := Lib.hid S.out.bel
      obtain ⟨W4, hW4⟩ : ∃ W4, wB.alloc (.cells #[] 57) = W4 := ⟨_, rfl⟩
      have B4 : Below wB.heap.size wB W4 := by rw [← hW4]; exact (Below.refl _ _).alloc (Nat.le_refl _) _
      have R4 : OutR wB [] (.slice (some ⟨wB.heap.size, 0, none⟩) 0 0) W4 := by rw [← hW4]; exact OutR.start wB
      have HWS : Hid (W4.heap.size = wB.heap.size + 1) := Lib.hid (by rw [← hW4]; simp)
      have PC := Lib.hid (prefixes2_calls W4 vO _ (S.out.below B4).fin (by rw [List.length_map]; omega))
      have HR4 := Lib.hid R4
      clear S R4 B4
      go_upto_region 8 with fail
      clear hW4
      go_wp2_with fail
      refine PC.out.mono ?_
      rintro e w5 ⟨vP, rfl, HP, B5, FP⟩
      have R5 := Lib.hid (HR4.out.below B5)
      have PL : Hid ((Ls.adds Ls.pfxLt [] (L.map fun x => x.rt.pfx)).length ≤ 400) := Lib.hid (by
        have h1 := Ls.adds_len (lt := Ls.pfxLt) (L.map fun x => x.rt.pfx) []
        simp only [List.length_nil, List.length_map] at h1
        omega)
      have PA : Hid (Ls.Asc Ls.pfxLt (Ls.adds Ls.pfxLt [] (L.map fun x => x.rt.pfx))) := Lib.hid (Ls.asc_adds Ls.pfxLin _ _ (by simp [Ls.Asc]))
      have PM : Hid (∀ i, i < L.length → (chA L i).pfx ∈ Ls.adds Ls.pfxLt [] (L.map fun x => x.rt.pfx)) := Lib.hid (fun i hi => by
        rw [Ls.mem_adds]
        right
        refine List.mem_map.2 ⟨L[i], List.getElem_mem hi, ?_⟩
        show L[i].rt.pfx = (rthAt L i).rt.pfx
        rw [rthAt_eq hi])
      have PX : Hid (∀ p ∈ Ls.adds Ls.pfxLt [] (L.map fun x => x.rt.pfx), ∃ j, j < L.length ∧ (chA L j).pfx = p) := Lib.hid (fun p hp => by
        rw [Ls.mem_adds] at hp
        rcases hp with h | h
        · simp at h
        · obtain ⟨x, hx, rfl⟩ := List.mem_map.1 h
          obtain ⟨i, hi, rfl⟩ := List.getElem_of_mem hx
          exact ⟨i, hi, by show (rthAt L i).rt.pfx = _; rw [rthAt_eq hi]⟩)
      have HFP := Lib.hid FP
      generalize Ls.adds Ls.pfxLt [] (L.map fun x => x.rt.pfx) = ps at *
      obtain ⟨Pa, Pcap, rfl, hPl, hPc⟩ := HP.get
      have HPC := Lib.hid hPc
      have OJ0 : Hid (∀ j, (Value.slice (some ⟨wB.heap.size, 0, none⟩) 0 0).ownBlock = some j → j = wB.heap.size ∨ w5.heap.size ≤ j) := Lib.hid (fun j hj => by
        have hj : wB.heap.size = j := by simpa [Value.ownBlock] using hj
        exact .inl hj.symm)
      have p4 : ps.length ≤ 400 := PL.out
      clear PC HP B5 FP HR4 hPc
      go_wp2_with fail
      go_loopw [8, 10] (fun vo iv wr => ∃ (k : Nat) (out : List RtH), iv = .int .i64 k ∧ k ≤ ps.length ∧ Hid (OutR wB out vo wr ∧ RefC (chA L) L.length ps k (out.map RtH.pure)) ∧ Hid (w5.heap.size ≤ wr.heap.size ∧ ∀ b, wB.heap.size < b → b < w5.heap.size → wr.heap[b]? = w5.heap[b]?) ∧ Hid (∀ j, vo.ownBlock = some j → j = wB.heap.size ∨ w5.heap.size ≤ j)) (fun _ iv _ => ps.length - (intOf iv).toNat)
      case atStart => exact ⟨0, [], rfl, Nat.zero_le _, Lib.hid ⟨R5.out, RefC.zero⟩, Lib.hid ⟨Nat.le_refl _, fun _ _ _ => rfl⟩, OJ0⟩
      case round =>
        clear R5 OJ0
        obtain ⟨k, out, rfl, hk, S, GG, OJ⟩ := hrel
        obtain ⟨vR, hvR⟩ : ∃ z, z = u8 := ⟨_, rfl⟩
        subst hvR
        obtain ⟨wX, hwX⟩ : ∃ x, x = wr := ⟨_, rfl⟩
        subst hwX
        by_cases c : k < ps.length
        · obtain ⟨b, off, rfl, hb0, hcc⟩ := HPC.out (by omega)
          have HBF : wB.heap.size < b := by have h1 := (HFP.out b rfl).1; have h2 := HWS.out; omega
          have hblk := GG.out.2 b HBF hb0
          obtain ⟨d0, d1⟩ := hcc k c
          have d0 := (World.cell?_of_block (w := w5) (w' := wX) (a := ⟨b, off + k * 2, none⟩) hblk).trans d0
          have d1 := (World.cell?_of_block (w := w5) (w' := wX) (a := ⟨b, off + k * 2 + 1, none⟩) hblk).trans d1
          have HD0 := Lib.hid d0
          have HD1 := Lib.hid d1
          have HBL := Lib.hid (Nat.lt_of_lt_of_le hb0 GG.out.1)
          have HPX := Lib.hid (PX.out ps[k] (List.getElem_mem c))
          have HST := Lib.hid (fun (i : Nat) hs (hb : BstF (chA L) ps[k] L.length (i : Nat)) (hh : HopF (chA L) i L.length hs) => S.out.2.step c hb hh)
          have BX := Lib.hid S.out.1.bel
          have LEN : Hid (out.length ≤ 400) := Lib.hid (by
            have h := congrArg List.length S.out.2.pf
            simp only [List.length_map, List.length_take] at h
            omega)
          have OWN := Lib.hid (fun W' (hb : Below wX.heap.size wX W') => (S.out.1.below hb).own)
          have BSZ := Lib.hid S.out.1.bel.size
          have PU := Lib.hid (fun x v' W w4 hb hh hf own' hg4 d => S.out.1.push (x := x) (v' := v') (W := W) (w4 := w4) hb hh hf own' hg4 d)
          have KC := Lib.hid c
          have n0 : (0 : Int) ≤ (k : Int) := by omega
          have n1' : (k : Int) < (ps.length : Int) := by omega
          have n3 : ((k : Int)).toNat = k := by omega
          clear hcc hblk d0 d1
          generalize ps[k] = p at *
          obtain ⟨pa, pl⟩ := p
          go_wp2_with fail
          go_loopw [11, 12] (fun bv iv wr => ∃ (j : Nat) (bi : Int), iv = .int .i64 j ∧ bv = .int .i64 bi ∧ j ≤ L.length ∧ Hid (BstF (chA L) ⟨pa, pl⟩ j bi) ∧ Hid (Below wX.heap.size wX wr)) (fun _ iv _ => L.length - (intOf iv).toNat)
          case atStart => exact ⟨0, -1, rfl, rfl, Nat.zero_le _, Lib.hid BstF.zero, Lib.hid (Below.refl _ _)⟩
          case round =>
            obtain ⟨j, bi, rfl, rfl, hj, HB, BJ⟩ := hrel
            by_cases cj : j < L.length
            · obtain ⟨b2, off2, rfl, hb2, hc2⟩ := HC.out (by omega)
              have BW : Below w2.heap.size w2 wr := (HB2.out.trans (BX.out.mono HB2.out.size)).trans (BJ.out.mono (Nat.le_trans HB2.out.size BX.out.size))
              have LC := Lib.hid (fun (i : Nat) (h : i < L.length) => (by have := (hc2 i h).below BW hb2; rwa [← rthAt_eq h] at this : RtCells wr b2 (off2 + i * 9) (rthAt L i).rt))
              obtain ⟨tb, tbh⟩ := HB.out.tb
              have TB := Lib.hid tbh
              have NG := Lib.hid HB.out.neg
              have d0 := (BJ.out.cell (p := ⟨b, off + k * 2, none⟩) HBL.out).trans HD0.out
              have d1 := (BJ.out.cell (p := ⟨b, off + k * 2 + 1, none⟩) HBL.out).trans HD1.out
              have j0' : (0 : Int) ≤ (j : Int) := by omega
              have j1' : (j : Int) < (L.length : Int) := by omega
              have j3' : ((j : Int)).toNat = j := by omega
              have CJ := Lib.hid cj
              clear hc2 BW tbh HB
              go_upto_region 16 with fail
              go_cut [104] (fun sx wx => sx = .bool tb ∧ Below wX.heap.size wX wx)
              case first => as_aux_lemma =>
                have tb3 := TB.out.2.2.1
                have tb4 := TB.out.2.2.2.1
                have tb5 := TB.out.2.2.2.2
                have hcj := LC.out j CJ.out
                simp only [chA] at tb3 tb4 tb5
                obtain ⟨x, hx⟩ : ∃ x, x = rthAt L j := ⟨_, rfl⟩
                simp only [← hx] at hcj tb3 tb4 tb5
                clear hx
                obtain ⟨⟨⟨xp, xl⟩, x1, x2, x3, x4, x5, x6, xha, xn, xc⟩, xh⟩ := x
                obtain ⟨e0, e1, e2, -, e4, -⟩ := hcj
                simp only [RtH.pure] at e0 e1 e2 e4 tb3 tb4 tb5
                have EQ := fun W => eqPfx ⟨xp, xl⟩ ⟨pa, pl⟩ W
                by_cases he : (⟨xp, xl⟩ : Ls.Pfx) = ⟨pa, pl⟩
                · simp only [decide_eq_true he] at EQ
                  rcases NG.out with hb1 | ⟨i, hb1, hik⟩
                  · obtain rfl : tb = true := tb4 he hb1
                    subst hb1
                    clear LC TB NG tb3 tb4 tb5
                    go_quiet (fail)
                    go_wp2_with fail
                    go_meet
                    exact ⟨rfl, below_drewN BJ.out _⟩
                  · have tb6 := tb5 i he hb1
                    clear tb3 tb4 tb5 TB
                    subst hb1
                    have hci := LC.out i (Nat.lt_trans hik CJ.out)
                    obtain ⟨y, hy⟩ : ∃ y, y = rthAt L i := ⟨_, rfl⟩
                    simp only [← hy] at hci tb6
                    clear hy
                    obtain ⟨⟨⟨yp, yl⟩, y1, y2, y3, y4, y5, y6, yha, yn, yc⟩, yh⟩ := y
                    obtain ⟨-, -, f2, -, f4, -⟩ := hci
                    simp only at f2 f4 tb6
                    have hcl := CJ.out
                    have i0' : (0 : Int) ≤ (i : Int) := by omega
                    have i1' : (i : Int) < (L.length : Int) := by omega
                    have i3' : ((i : Int)).toNat = i := by omega
                    have i4' : decide ((i : Int) < 0) = false := decide_eq_false (by omega)
                    clear LC NG hik
                    by_cases h1 : x1 < y1
                    · have g1 : decide (x1 < y1) = true := decide_eq_true h1
                      obtain rfl : tb = true := tb6.2 (.inl h1)
                      clear tb6
                      go_quiet (fail)
                      go_wp2_with fail
                      go_meet
                      exact ⟨rfl, below_drewN BJ.out _⟩
                    · have g1 : decide (x1 < y1) = false := decide_eq_false h1
                      by_cases h2 : x1 = y1
                      · have g2 : (x1 == y1) = true := by simpa using h2
                        have g3 : tb = decide (x3 < y3) := by
                          rw [Bool.eq_iff_iff, tb6, decide_eq_true_iff]
                          exact ⟨fun h => by rcases h with h | h; exact absurd h h1; exact h.2, fun h => .inr ⟨h2, h⟩⟩
                        have G3 := Lib.hid g3
                        clear tb6 g3
                        go_quiet (fail)
                        go_wp2_with fail
                        go_meet
                        exact ⟨by rw [G3.out], below_drewN BJ.out _⟩
                      · have g2 : (x1 == y1) = false := by simpa using h2
                        obtain rfl : tb = false := by
                          cases tb with
                          | false => rfl
                          | true => exact absurd (tb6.1 rfl) (by rintro (h | h); exact h1 h; exact h2 h.1)
                        clear tb6
                        go_quiet (fail)
                        go_wp2_with fail
                        go_meet
                        exact ⟨rfl, below_drewN BJ.out _⟩
                · simp only [decide_eq_false he] at EQ
                  obtain rfl : tb = false := tb3 he
                  clear LC TB NG tb3 tb4 tb5
                  go_quiet (fail)
                  go_wp2_with fail
                  go_meet
                  exact ⟨rfl, below_drewN BJ.out _⟩
              case rest =>
              obtain ⟨rfl, hbc⟩ := hcut
              have BC := Lib.hid hbc
              clear hbc d0 d1
              cases tb with
              | true =>
                have NX := Lib.hid (TB.out.1 rfl)
                clear TB NG LC
                go_wp2_with fail
                go_roundw
                case rel => exact ⟨j + 1, j, by go_num, rfl, by have := CJ.out; omega, NX, BC⟩
                case measure => simp [intOf]; have := CJ.out; omega
              | false =>
                have NX := Lib.hid (TB.out.2.1 rfl)
                clear TB NG LC
                go_wp2_with fail
                go_roundw
                case rel => exact ⟨j + 1, bi, by go_num, rfl, by have := CJ.out; omega, NX, BC⟩
                case measure => simp [intOf]; have := CJ.out; omega
            · obtain rfl : j = L.length := by omega
              obtain ⟨i, rfl, hi⟩ := HB.out.some HPX.out
              obtain ⟨b2, off2, rfl, hb2, hc2⟩ := HC.out (by omega)
              obtain ⟨wY, hwY⟩ : ∃ x, x = wr := ⟨_, rfl⟩
              subst hwY
              have BW : Below w2.heap.size w2 wY := (HB2.out.trans (BX.out.mono HB2.out.size)).trans (BJ.out.mono (Nat.le_trans HB2.out.size BX.out.size))
              have HBW := Lib.hid BW
              have LC := Lib.hid (fun (W : World) (hb : Below w2.heap.size w2 W) (i : Nat) (h : i < L.length) => (by have := (hc2 i h).below hb hb2; rwa [← rthAt_eq h] at this : RtCells W b2 (off2 + i * 9) (rthAt L i).rt))
              have HST2 := Lib.hid (fun hs (hh : HopF (chA L) i L.length hs) => HST.out i hs HB.out hh)
              have HI := Lib.hid hi
              have i0' : (0 : Int) ≤ (i : Int) := by omega
              have i1' : (i : Int) < (L.length : Int) := by omega
              have i3' : ((i : Int)).toNat = i := by omega
              have hcy := LC.out wY BW i hi
              obtain ⟨y, hy⟩ : ∃ y, rthAt L i = y := ⟨_, rfl⟩
              rw [hy] at hcy
              obtain ⟨⟨⟨yp, yl⟩, y1, y2, y3, y4, y5, y6, yha, yn, yc⟩, yh⟩ := y
              have HY := Lib.hid hy
              obtain ⟨f0, f1, f2, f3, f4, f5, f6, f7, f8⟩ := hcy
              simp only at f0 f1 f2 f3 f4 f5 f6 f7 f8
              obtain ⟨WR, hWR⟩ : ∃ WR, wY.alloc (.cells #[.int .u32 yp, .int .i64 yl, .int .i64 y1, .int .u32 y2, .int .i64 y3, .bool y4, .int .i64 y5, .int .i64 y6, .slice yha yn yc] 57) = WR := ⟨_, rfl⟩
              have BR : Below wY.heap.size wY WR := by rw [← hWR]; exact (Below.refl _ _).alloc (Nat.le_refl _) _
              have bR : WR.heap[wY.heap.size]? = some (.cells #[.int .u32 yp, .int .i64 yl, .int .i64 y1, .int .u32 y2, .int .i64 y3, .bool y4, .int .i64 y5, .int .i64 y6, .slice yha yn yc] 57 (0, 0)) := by rw [← hWR]; exact alloc_new wY _
              obtain ⟨WH, hWH⟩ : ∃ WH, WR.alloc (.cells #[] 60) = WH := ⟨_, rfl⟩
              have BH : Below WR.heap.size WR WH := by rw [← hWH]; exact (Below.refl _ _).alloc (Nat.le_refl _) _
              have sz : WH.heap.size = WR.heap.size + 1 := by rw [← hWH]; simp
              have H0 : Hid (HopsAt WH (.slice (some ⟨WR.heap.size, 0, none⟩) 0 0) [] ∧ HopF (chA L) i 0 [] ∧ ([] : List Ls.Hop).length ≤ 0 * M) := Lib.hid ⟨⟨_, 0, rfl, Nat.le_refl _, (by unfold maxLen; omega), (fun h => by cases h), fun h => by cases h⟩, HopF.zero, by simp⟩
              have BYH := Lib.hid (BJ.out.trans ((BR.trans (BH.mono BR.size)).mono BJ.out.size))
              have HbH := Lib.hid ((BH.block _ (blk_lt bR)).trans bR)
              have FR0 : Hid (∀ b, (Value.slice (some ⟨WR.heap.size, 0, none⟩) 0 0).ownBlock = some b → wY.heap.size < b ∧ b < WH.heap.size) := Lib.hid (fun b hb => by
                have hb : WR.heap.size = b := by simpa [Value.ownBlock] using hb
                have h2 := blk_lt bR
                omega)
              have HYX := Lib.hid BJ.out.size
              clear hc2 HB HST hi BR bR BH sz
              go_upto_region 20 with fail
              clear f0 f1 f2 f3 f4 f5 f6 f7 f8 hWR hWH
              go_wp2_with fail
              go_loopw [14, 15] (fun hv iv wr => ∃ (j : Nat) (hs : List Ls.Hop), iv = .int .i64 j ∧ j ≤ L.length ∧ Hid (HopsAt wr hv hs ∧ HopF (chA L) i j hs ∧ hs.length ≤ j * M) ∧ Hid (Below WH.heap.size WH wr) ∧ Hid (∀ b, hv.ownBlock = some b → wY.heap.size < b ∧ b < wr.heap.size)) (fun _ iv _ => L.length - (intOf iv).toNat)
              case atStart => exact ⟨0, [], rfl, Nat.zero_le _, H0, Lib.hid (Below.refl _ _), FR0⟩
              case round =>
                clear H0 FR0
                obtain ⟨j, hs, rfl, hj, HO, BK, FR⟩ := hrel
                obtain ⟨vH, hvH⟩ : ∃ z, z = u14 := ⟨_, rfl⟩
                subst hvH
                by_cases cj : j < L.length
                · have BXr : Below wX.heap.size wX wr := BYH.out.trans (BK.out.mono BYH.out.size)
                  have B2r : Below w2.heap.size w2 wr := (HB2.out.trans (BX.out.mono HB2.out.size)).trans (BXr.mono (Nat.le_trans HB2.out.size BX.out.size))
                  have hcj := LC.out wr B2r j cj
                  have HXJ := Lib.hid ((HH.out _ (by rw [rthAt_eq cj]; exact List.getElem_mem cj : rthAt L j ∈ L)).below (P2.out.2.trans (B2r.mono P2.out.2.size)))
                  have MXJ := Lib.hid (HM.out _ (by rw [rthAt_eq cj]; exact List.getElem_mem cj : rthAt L j ∈ L))
                  have bY := (BK.out.block _ (blk_lt HbH.out)).trans HbH.out
                  obtain ⟨⟨x0, x1, x2, x3, x4, x5, x6, x7, x8⟩, -⟩ := blk9 bY
                  obtain ⟨tb, tbh⟩ := ck_tb (chA L) j i
                  have NXT := Lib.hid (fun (h : tb = true) => HO.out.2.1.like (tbh.2.1 h))
                  have NXF := Lib.hid (fun (h : tb = false) => HO.out.2.1.other (tbh.2.2 h))
                  have tb1 := tbh.1
                  have j0' : (0 : Int) ≤ (j : Int) := by omega
                  have j1' : (j : Int) < (L.length : Int) := by omega
                  have j3' : ((j : Int)).toNat = j := by omega
                  have CJ := Lib.hid cj
                  have BRR := Lib.hid BXr
                  simp only [chA, HY.out] at tb1
                  obtain ⟨x, hx⟩ : ∃ x, x = rthAt L j := ⟨_, rfl⟩
                  have HX2 := Lib.hid hx
                  simp only [← hx] at hcj tb1 HXJ MXJ
                  clear hx
                  obtain ⟨⟨⟨xp, xl⟩, z1, z2, z3, z4, z5, z6, xha, xn, xc⟩, xh⟩ := x
                  obtain ⟨e0, e1, e2, -, e4, -, -, -, e8⟩ := hcj
                  simp only [RtH.pure] at e0 e1 e2 e4 e8 tb1
                  have EQ := fun W => eqPfx ⟨xp, xl⟩ ⟨yp, yl⟩ W
                  have TB := Lib.hid tb1
                  clear tbh tb1 BXr B2r bY
                  go_upto_region 23 with fail
                  go_cut [144] (fun sx wx => sx = .bool tb ∧ Below wr.heap.size wr wx)
                  case first => as_aux_lemma =>
                    have tb1 := TB.out
                    clear TB NXT NXF
                    by_cases he : (⟨xp, xl⟩ : Ls.Pfx) = ⟨yp, yl⟩
                    · simp only [decide_eq_true he] at EQ
                      by_cases h1 : z1 = y1
                      · have g1 : (z1 == y1) = true := by simpa using h1
                        have g3 : tb = (z3 == y3) := by
                          rw [Bool.eq_iff_iff, tb1, beq_iff_eq]
                          exact ⟨fun h => h.2.2, fun h => ⟨he, h1, h⟩⟩
                        have G3 := Lib.hid g3
                        clear tb1 g3
                        go_quiet (fail)
                        go_wp2_with fail
                        go_meet
                        exact ⟨by rw [G3.out], below_drewN (Below.refl _ _) _⟩
                      · have g1 : (z1 == y1) = false := by simpa using h1
                        obtain rfl : tb = false := by
                          cases tb with
                          | false => rfl
                          | true => exact absurd (tb1.1 rfl).2.1 h1
                        clear tb1
                        go_quiet (fail)
                        go_wp2_with fail
                        go_meet
                        exact ⟨rfl, below_drewN (Below.refl _ _) _⟩
                    · simp only [decide_eq_false he] at EQ
                      obtain rfl : tb = false := by
                        cases tb with
                        | false => rfl
                        | true => exact absurd (tb1.1 rfl).1 he
                      clear tb1
                      go_quiet (fail)
                      go_wp2_with fail
                      go_meet
                      exact ⟨rfl, below_drewN (Below.refl _ _) _⟩
                  case rest =>
                  obtain ⟨rfl, hbc⟩ := hcut
                  have BC := Lib.hid hbc
                  have e8 := bcell hbc e8
                  have hjM : j * M ≤ 400 * M := Nat.mul_le_mul_right M (by omega)
                  have HJM := Lib.hid hjM
                  clear hbc x0 x1 x2 x3 x4 x5 x6 x7 x8 e0 e1 e2 e4 hjM EQ
                  cases tb with
                  | true =>
                    have NX0 : Hid (HopF (chA L) i (j + 1) (Ls.merge Ls.hopLt hs xh)) := Lib.hid (by
                      have h := NXT.out rfl
                      have e : (chA L j).hops = xh := by show (rthAt L j).hops = xh; rw [← HX2.out]
                      rw [e] at h; exact h)
                    have MX : Hid (xh.length ≤ M) := Lib.hid MXJ.out
                    have HL := Lib.hid HO.out.2.2
                    have MC := Lib.hid (rmerge_calls wc vH (.slice xha xn xc) hs xh (HO.out.1.below BC.out) (HXJ.out.below BC.out) (by have h1 := MX.out; have h2 := HL.out; have h3 := HJM.out; omega))
                    clear TB NXT NXF HO HXJ MXJ FR
                    go_wp2_with fail
                    refine MC.out.mono ?_
                    rintro e w7 ⟨v7, rfl, O7, B7⟩
                    have wlt : wY.heap.size < wc.heap.size := Nat.lt_of_lt_of_le (blk_lt HbH.out) (Nat.le_trans BK.out.size BC.out.size)
                    have NX : Hid (HopsAt w7 v7 (Ls.merge Ls.hopLt hs xh) ∧ HopF (chA L) i (j + 1) (Ls.merge Ls.hopLt hs xh) ∧ (Ls.merge Ls.hopLt hs xh).length ≤ (j + 1) * M) := Lib.hid ⟨O7.at, NX0.out, Nat.le_trans (Ls.merge_length_le hs xh) (mul_add' HL.out MX.out)⟩
                    have NK := Lib.hid (BK.out.trans ((BC.out.trans (B7.mono BC.out.size)).mono BK.out.size))
                    have NF : Hid (∀ b, v7.ownBlock = some b → wY.heap.size < b ∧ b < w7.heap.size) := Lib.hid (fun b hb => ⟨Nat.lt_of_lt_of_le wlt (World.ownsRow.lt O7 b hb).1, (World.ownsRow.lt O7 b hb).2⟩)
                    clear O7 B7 wlt NX0 MX HL MC e8
                    go_wp2_with fail
                    go_roundw
                    case rel => exact ⟨j + 1, _, by go_num, by have := CJ.out; omega, NX, NK, NF⟩
                    case measure => simp [intOf]; have := CJ.out; omega
                  | false =>
                    have NX : Hid (HopsAt wc vH hs ∧ HopF (chA L) i (j + 1) hs ∧ hs.length ≤ (j + 1) * M) := Lib.hid ⟨HO.out.1.below BC.out, NXF.out rfl, mul_up HO.out.2.2⟩
                    have NK := Lib.hid (BK.out.trans (BC.out.mono BK.out.size))
                    have NF : Hid (∀ b, vH.ownBlock = some b → wY.heap.size < b ∧ b < wc.heap.size) := Lib.hid (fun b hb => ⟨(FR.out b hb).1, Nat.lt_of_lt_of_le (FR.out b hb).2 BC.out.size⟩)
                    clear TB NXT NXF HO HXJ MXJ FR e8
                    go_wp2_with fail
                    go_roundw
                    case rel => exact ⟨j + 1, _, by go_num, by have := CJ.out; omega, NX, NK, NF⟩
                    case measure => simp [intOf]; have := CJ.out; omega
                · obtain rfl : j = L.length := by omega
                  obtain ⟨a5, c5, e5, -⟩ := HO.out.1.get
                  generalize hn5 : hs.length = n5 at e5
                  subst e5
                  have BXr : Below wX.heap.size wX wr := BYH.out.trans (BK.out.mono BYH.out.size)
                  have bx5 := (BK.out.block _ (blk_lt HbH.out)).trans HbH.out
                  have fz := blk_free bx5 8
                  have f8 : wr.cell? ⟨wY.heap.size, 8, none⟩ = some (.slice yha yn yc) := blk_cell bx5 rfl
                  obtain ⟨W6, hW6⟩ : ∃ W6, wr.setCell ⟨wY.heap.size, 8, none⟩ (.slice a5 n5 c5) = W6 := ⟨_, rfl⟩
                  have b6 : W6.heap[wY.heap.size]? = some (.cells #[.int .u32 yp, .int .i64 yl, .int .i64 y1, .int .u32 y2, .int .i64 y3, .bool y4, .int .i64 y5, .int .i64 y6, .slice a5 n5 c5] 57 (0, 0)) := by
                    rw [← hW6]
                    have h1 := blk_set bx5 8 (.slice a5 n5 c5)
                    simp only [List.setIfInBounds_toArray, List.set_cons_zero, List.set_cons_succ] at h1
                    exact h1
                  have G6 : wr.grownBy W6 (some wY.heap.size) := by rw [← hW6]; exact grown_set wr wY.heap.size 8 _
                  have B6 : Below wX.heap.size wX W6 := BXr.grown G6 BXr.size (fun j hj => by cases hj; exact HYX.out)
                  have H6 : HopsAt W6 (.slice a5 n5 c5) hs := SlV.kept HO.out.1 G6 fun b off n c e => by
                    have := (FR.out b (by rw [e]; rfl)).1
                    intro h; cases h; omega
                  have F6 : ∀ b, (Value.slice a5 n5 c5).ownBlock = some b → wX.heap.size ≤ b ∧ b < W6.heap.size := fun b hb => ⟨by have := (FR.out b hb).1; have := HYX.out; omega, Nat.lt_of_lt_of_le (FR.out b hb).2 G6.size⟩
                  obtain ⟨⟨q0, q1, q2, q3, q4, q5, q6, q7, q8⟩, -⟩ := blk9 b6
                  obtain ⟨W9, hW9⟩ : ∃ W9, W6.alloc (.cells #[.int .u32 yp, .int .i64 yl, .int .i64 y1, .int .u32 y2, .int .i64 y3, .bool y4, .int .i64 y5, .int .i64 y6, .slice a5 n5 c5] 57) = W9 := ⟨_, rfl⟩
                  have B9 : Below W6.heap.size W6 W9 := by rw [← hW9]; exact (Below.refl _ _).alloc (Nat.le_refl _) _
                  have BKK : Hid (W9.heap[W6.heap.size]? = some (.cells (List.toArray [.int .u32 yp, .int .i64 yl, .int .i64 y1, .int .u32 y2, .int .i64 y3, .bool y4, .int .i64 y5, .int .i64 y6, .slice a5 n5 c5]) 57 (0, 0))) := Lib.hid (by rw [← hW9]; exact alloc_new W6 _)
                  have BR9 := B6.trans (B9.mono B6.size)
                  have OW9 := Lib.hid (OWN.out W9 BR9)
                  have ONE : Hid (∀ u ∈ ([.int .u32 yp, .int .i64 yl, .int .i64 y1, .int .u32 y2, .int .i64 y3, .bool y4, .int .i64 y5, .int .i64 y6, .slice a5 n5 c5] : List Value), u.oneCell' = true) := Lib.hid (fun u hu => rtE_one ⟨⟨yp, yl⟩, y1, y2, y3, y4, y5, y6, a5, n5, c5⟩ u hu)
                  have K1 : Hid ((out.map RtH.rt).length + 1 ≤ maxLen) := Lib.hid (by have h1 := LEN.out; rw [List.length_map]; unfold maxLen; omega)
                  have K2 : Hid (((out.map RtH.rt).length + 1) * 88 ≤ 140737488355328) := Lib.hid (by have h1 := LEN.out; rw [List.length_map]; omega)
                  have BS : Hid (wB.heap.size ≤ W9.heap.size) := Lib.hid (Nat.le_trans BSZ.out BR9.size)
                  have RC : Hid (RefC (chA L) L.length ps (k + 1) ((out ++ [(⟨⟨⟨yp, yl⟩, y1, y2, y3, y4, y5, y6, a5, n5, c5⟩, hs⟩ : RtH)]).map RtH.pure)) := Lib.hid (by
                    have h := HST2.out hs HO.out.2.1
                    have e : chA L i = (⟨⟨⟨yp, yl⟩, y1, y2, y3, y4, y5, y6, yha, yn, yc⟩, yh⟩ : RtH).pure := by show (rthAt L i).pure = _; rw [HY.out]
                    rw [e] at h
                    rw [List.map_append]
                    exact h)
                  have PK := Lib.hid (fun v' w4 own' hg4 d => (PU.out ⟨⟨⟨yp, yl⟩, y1, y2, y3, y4, y5, y6, a5, n5, c5⟩, hs⟩ v' W9 w4 BR9 (H6.below B9) (fun b hb => ⟨(F6 b hb).1, Nat.lt_of_lt_of_le (F6 b hb).2 B9.size⟩) own' hg4 d))
                  have GK : Hid (∀ w4 : World, W9.grownBy w4 vR.ownBlock → w5.heap.size ≤ w4.heap.size ∧ ∀ b, wB.heap.size < b → b < w5.heap.size → w4.heap[b]? = w5.heap[b]?) := Lib.hid (fun w4 hg => ⟨Nat.le_trans GG.out.1 (Nat.le_trans BR9.size hg.size), fun b h1 h2 => (hg.block b (Nat.lt_of_lt_of_le h2 (Nat.le_trans GG.out.1 BR9.size)) (fun e => by rcases OJ.out b e.symm with h | h <;> omega)).trans ((BR9.block b (Nat.lt_of_lt_of_le h2 GG.out.1)).trans (GG.out.2 b h1 h2))⟩)
                  have OK2 : Hid (∀ v' : Value, (v'.ownBlock = vR.ownBlock ∨ v'.ownBlock = some W9.heap.size) → ∀ j, v'.ownBlock = some j → j = wB.heap.size ∨ w5.heap.size ≤ j) := Lib.hid (fun v' d j hj => by
                    rcases d with d | d
                    · exact OJ.out j (by rw [← d]; exact hj)
                    · rw [d] at hj; cases hj; right; exact Nat.le_trans GG.out.1 BR9.size)
                  have HW9 := Lib.hid hW9
                  clear hn5 bx5 b6 G6 B6 H6 F6 hW9 B9 BR9 OWN BSZ PU HST2 HO BK FR LC HY BXr BYH HbH HYX HBW GG OJ
                  go_upto_region 26 with fail
                  go_wp2_with (at_builtin; rw [HW9.out]; refine wpList_append_one rfl (.tmp 154) (.tmp 156) 27 rfl wB.heap.size 57 i0 (.agg #[.int .u32 0, .int .i64 0, .int .i64 0, .int .u32 0, .int .i64 0, .bool false, .int .i64 0, .int .i64 0, .slice none 0 0]) 9 88 Tryz.underlying27 ?g1 ?g2 ?g3 ?g4 ?g5 ?g6 vR (out.map RtH.rt).length _ ?g7 OW9.out W6.heap.size [.int .u32 yp, .int .i64 yl, .int .i64 y1, .int .u32 y2, .int .i64 y3, .bool y4, .int .i64 y5, .int .i64 y6, .slice a5 n5 c5] 57 ?g8 BKK.out ?g9 ONE.out K1.out K2.out BS.out ?_; (case g1 => exact HI0.out); (case g2 => exact HZ0.out); (case g3 => exact HZ1.out); (case g4 => exact HZ2.out); (case g5 => exact rfl); (case g6 => decide); (case g7 => exact rfl); (case g8 => exact rfl); (case g9 => exact rfl); intro v' w4 own' hg4 d; have NX := Lib.hid (And.intro (PK.out v' w4 own' hg4 d) RC.out); have NG := Lib.hid (GK.out w4 hg4); have NJ := Lib.hid (OK2.out v' d); clear own' hg4 d)
                  go_roundw
                  case rel => exact ⟨k + 1, _, by go_num, by have := KC.out; omega, NX, NG, NJ⟩
                  case measure => simp [intOf]; have := KC.out; omega
        · obtain rfl : k = ps.length := by omega
          have FI : Hid (RchPost w L (.returned vR) wX) := Lib.hid ⟨vR, out, rfl, S.out.1.at, S.out.2.fin PA.out PM.out, HBB.out.trans (S.out.1.bel.mono HBB.out.size)⟩
          clear S GG
          go_wp2_with fail
          go_ret
          exact FI.out

end Go.Proofs.YtogdconliofblaaGreat
