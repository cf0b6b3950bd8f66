/-
  inter.Summaries walked.
-/
import Derived.Test.YtogdconliofblaaGreatSmy
import Derived.Deep.DeepCutAuto
namespace Go.Proofs.YtogdconliofblaaGreat
open Go.RowKit

def SuPost (w : World) (C : Cfg) (lr : List Arg) (into : Int) (rs : List RtH) (l : List Rch) (e : Ending) (w' : World) : Prop :=
  ∃ v L, e = .returned v ∧ LsasAt w' v L ∧ SuIs C lr into rs l L ∧ Below w.heap.size w w'

set_option maxHeartbeats 16000000 in
set_option maxRecDepth 100000 in
theorem summaries_calls (w : World) (C : Cfg) (lr : List Arg) (hlr : RngsAt w (.slice C.ra C.rn C.rc) lr) (okl : ∀ o ∈ lr, OkP o.pfx ∧ pfxOk o.pfx) (into : Int) (vr : Value) (rs : List RtH) (hr : RoutesAt w vr rs) (okr : ∀ y ∈ rs, OkP y.rt.pfx ∧ pfxOk y.rt.pfx)
    (n1 : rs.length ≤ 100) (n2 : lr.length ≤ 64) (vi : Value) (l : List Rch) (hl : ReachAt w vi l) (okw : ∀ x ∈ l, u32Ok x.router) (n3 : l.length ≤ 2097152) :
    Calls Tryz.prog 12 #[.agg (cfgE C).toArray, .int .u32 into, vr, vi] w (SuPost w C lr into rs l) := by
  obtain ⟨i0, hi0, hz0, hz1, hz2⟩ := info_parts Tryz.infoLsa
  have HI0 := Lib.hid hi0
  have HZ0 := Lib.hid hz0
  have HZ1 := Lib.hid hz1
  have HZ2 := Lib.hid hz2
  have SZ := Lib.hid (fun W (hb : Below w.heap.size w W) => summarized_calls W C lr (hlr.below hb) okl into vr rs (hr.below hb) okr n1 n2)
  obtain ⟨a1, c1, rfl, hl1, -⟩ := hr.get
  obtain ⟨a2, c2, rfl, hl2, hrc⟩ := hl.get
  have HRC := Lib.hid hrc
  have HOW := Lib.hid okw
  have N1 := Lib.hid n1
  have N2 := Lib.hid n2
  have N3 := Lib.hid n3
  have mixed : Tryz.prog.follows .mixedOrders = true := by kernel_rfl
  have hmm := @run_makeMap Tryz.prog
  clear hlr hr hl okl okr okw hi0 hz0 hz1 hz2 hrc
  obtain ⟨router, ia, iN, ic, ra, rn, rc⟩ := C
  obtain ⟨WA, hWA⟩ : ∃ WA, w.alloc (.cells #[.int .u32 router, .slice ia iN ic, .slice ra rn rc] 26) = WA := ⟨_, rfl⟩
  have BA : Below w.heap.size w WA := by rw [← hWA]; exact (Below.refl _ _).alloc (Nat.le_refl _) _
  have bA : WA.heap[w.heap.size]? = some (.cells #[.int .u32 router, .slice ia iN ic, .slice ra rn rc] 26 (0, 0)) := by rw [← hWA]; exact alloc_new w _
  have SZA := Lib.hid (SZ.out WA BA)
  simp only [cfgE] at SZA ⊢
  have y0 := blk_cell (i := 0) bA rfl
  have y1 := blk_cell (i := 1) bA rfl
  have y2 := blk_cell (i := 2) bA rfl
  have HWA := Lib.hid hWA
  have HBA := Lib.hid BA
  have HBX := Lib.hid bA
  clear hWA BA bA SZ
  go_enter Tryz.func12, Tryz.ntmps12
  go_upto_region 2 with fail
  rw [HWA.out]
  go_wp2_with fail
  refine SZA.out.mono ?_
  rintro e w1 ⟨mb, n, g, rfl, M1, MN, hn, B1, hmb⟩
  have hszA : WA.heap.size = w.heap.size + 1 := by rw [← HWA.out]; simp
  have HM1 := Lib.hid M1
  have HMN := Lib.hid MN
  have HNN := Lib.hid hn
  have HB1 := Lib.hid (HBA.out.trans (B1.mono HBA.out.size))
  have HX1 := Lib.hid ((B1.block _ (blk_lt HBX.out)).trans HBX.out)
  clear M1 MN hn B1 SZA y0 y1 y2
  go_wp2_with (at_range; refine wpList_rangeF _ rfl _ 79 rfl 3 Tryz.pfxKey Tryz.underlying79 mb n g rfl HM1.out ?_; intro w0 cnt0 hcnt0 hrg0 hg0 hs0)
  have B0 : Below w1.heap.size w1 w0 := ⟨hg0.os, hg0.tape, hg0.output, hg0.size, fun i hi => hg0.block i hi (by simp)⟩
  have O0 : Hid (Ou 55 pfxOk pfxLit (sumL router) w ⟨router, ia, iN, ic, ra, rn, rc⟩ mb w1.heap.size n g (fun x => (g x).isSome) cnt0 [] [] (.slice none 0 0) w0) := Lib.hid
    (Ou.start hrg0 hcnt0 (World.ownsRow_nil _ _ _ _) (by simp) ((B0.block _ (blk_lt HX1.out)).trans HX1.out) (HB1.out.trans (B0.mono HB1.out.size)) (by have := HB1.out.size; have := HM1.out.lt; omega))
  clear hrg0 hg0 hs0 hcnt0 B0 HM1 HX1
  go_frame
  generalize w1.heap.size = rb at *
  go_loopw [9] (fun v wq => ∃ (left : Ls.Pfx → Bool) (cnt : Nat) (out : List Lsa), Hid (Ou 55 pfxOk pfxLit (sumL router) w ⟨router, ia, iN, ic, ra, rn, rc⟩ mb rb n g left cnt [] out v wq)) (fun _ wq => wq.rangeLeft mb rb)
  case atStart => exact ⟨_, _, _, O0⟩
  case round =>
    clear O0
    obtain ⟨left, cnt, out, Q⟩ := hrel
    obtain ⟨vA, hvA⟩ : ∃ z, z = u9 := ⟨_, rfl⟩
    subst hvA
    go_wp2_with (at_next; refine wpList_nextF _ rfl _ rfl Tryz.pfxKey mb rb n g left cnt rfl Q.out.rng ?_ ?_)
    · intro hl0
      --DONE1
      have MEM1 : Hid (∀ x, x ∈ out ↔ ∃ p c, pfxOk p ∧ g p = some c ∧ x = sumL router p c) := Lib.hid (fun x => by
        rw [Q.out.mem x]
        constructor
        · rintro (h | ⟨p, c, h1, h2, h3, h4⟩)
          · cases h
          · exact ⟨p, c, h1, h3, h4⟩
        · rintro ⟨p, c, h1, h3, h4⟩
          exact .inr ⟨p, c, h1, hl0 p h1, h3, h4⟩)
      have ND := Lib.hid Q.out.nd
      have LEN := Lib.hid (show out.length ≤ n by have := Q.out.len; simp only [List.length_nil] at this; omega)
      obtain ⟨WO, eWO⟩ : ∃ x, x = wr := ⟨_, rfl⟩
      subst eWO
      obtain ⟨W2, hW2⟩ : ∃ W2, WO.alloc (.map #[] 0) = W2 := ⟨_, rfl⟩
      have B2 : Below WO.heap.size WO W2 := by rw [← hW2]; exact (Below.refl _ _).alloc (Nat.le_refl _) _
      have ST2 : Hid (Bn w ⟨router, ia, iN, ic, ra, rn, rc⟩ into l WO.heap.size 0 out vA W2) := Lib.hid (by
        have h1 : UMap W2 WO.heap.size 0 (fun _ => none) := by rw [← hW2]; exact MapF.made WO
        exact ⟨Nat.zero_le _, h1, World.ownsRow.kept (row := none) Q.out.own (grown_of_below B2 none) (by cases vA.ownBlock <;> simp), (B2.block _ (blk_lt Q.out.bx)).trans Q.out.bx, Q.out.bel.trans (B2.mono Q.out.bel.size), by have := Q.out.rng.lt.1; have := Q.out.hr; omega⟩)
      have HW2 := Lib.hid hW2
      clear hl0 Q B2 hW2
      go_upto_region 8 with fail
      rw [HW2.out]
      clear HW2
      go_loopw [42] (fun ix wq => ∃ k : Nat, ix = .int .i64 k ∧ Hid (Bn w ⟨router, ia, iN, ic, ra, rn, rc⟩ into l WO.heap.size k out vA wq)) (fun ix _ => l.length - (intOf ix).toNat)
      case atStart => exact ⟨0, rfl, ST2⟩
      case round =>
        clear ST2
        obtain ⟨k, rfl, Q⟩ := hrel
        have hk := Q.out.hk
        by_cases c : k < l.length
        · --WAYS
          obtain ⟨db, doff, rfl, hdb, hdc⟩ := HRC.out (by omega)
          obtain ⟨d0, d1, d2, d3, d4, d5, d6⟩ := hdc k c
          have up : ∀ {o : Nat} {u : Value}, w.cell? ⟨db, o, none⟩ = some u → wr.cell? ⟨db, o, none⟩ = some u := fun {o u} hh => (World.cell?_of_block (w := w) (w' := wr) (a := ⟨db, o, none⟩) (Q.out.bel.block db hdb)).trans hh
          replace d0 := up d0
          replace d1 := up d1
          replace d2 := up d2
          replace d3 := up d3
          replace d4 := up d4
          replace d5 := up d5
          replace d6 := up d6
          have SK := Lib.hid (fun h W' g => Q.out.skip c h (W' := W') g)
          have TA := Lib.hid (fun h W' w4 g m g4 => Q.out.take c h (W' := W') (w4 := w4) g m g4)
          have OKW := Lib.hid (HOW.out l[k] (List.getElem_mem c))
          have MU := Lib.hid Q.out.mu
          have bx0 := Q.out.bx
          simp only [cfgE] at bx0
          have y0 : wr.cell? ⟨w.heap.size, 0, none⟩ = some (.int .u32 router) := blk_cell bx0 rfl
          have KC := Lib.hid c
          have i0' : (0 : Int) ≤ (k : Int) := by omega
          have i1' : (k : Int) < (l.length : Int) := by omega
          have s3 : ((k : Int)).toNat = k := by omega
          clear up hdc bx0 Q
          generalize l[k] = x at *
          clear c
          obtain ⟨xr, xa, xinter, xborder, xbound, xc, xha, xhn, xhc, xh⟩ := x
          simp only at d0 d1 d2 d3 d4 d5 d6 OKW TA
          go_upto_region 10 with fail
          generalize hW3 : wr.alloc _ = W3
          have B3 : Below wr.heap.size wr W3 := by rw [← hW3]; exact (Below.refl _ _).alloc (Nat.le_refl _) _
          have b3 : W3.heap[wr.heap.size]? = some (.cells #[.int .u32 xr, .int .u32 xa, .bool xinter, .bool xborder, .bool xbound, .int .i64 xc, .slice xha xhn xhc] 50 (0, 0)) := by rw [← hW3]; exact alloc_new _ _
          have z0 := blk_cell (i := 0) b3 rfl
          have z1 := blk_cell (i := 1) b3 rfl
          have z2 := blk_cell (i := 2) b3 rfl
          have z4 := blk_cell (i := 4) b3 rfl
          have z5 := blk_cell (i := 5) b3 rfl
          have y0 := bcell B3 y0
          have HB3 := Lib.hid B3
          have FC := Lib.hid (fun W => ifine_calls xc W)
          have LC := Lib.hid (leastu_calls W3 WO.heap.size k (bndK router into l k) (MU.out.grow B3) (by have := N3.out; have := KC.out; unfold maxLen; omega) xr OKW.out xc)
          clear hW3 B3 b3 d0 d1 d2 d3 d4 d5 d6 MU
          cases xbound with
          | false =>
            have NX := Lib.hid (SK.out (by simp [bndB]) W3 HB3.out)
            clear SK TA LC FC
            go_wp2_with fail
            go_roundw
            case rel => exact ⟨k + 1, by go_num, NX⟩
            case measure => simp [intOf]; have := KC.out; omega
          | true =>
            by_cases q1 : xr = router
            · have e1 : (xr != router) = false := by simpa using q1
              have NX := Lib.hid (SK.out (by simp [bndB, q1]) W3 HB3.out)
              clear q1
              clear SK TA LC FC
              go_wp2_with fail
              go_roundw
              case rel => exact ⟨k + 1, by go_num, NX⟩
              case measure => simp [intOf]; have := KC.out; omega
            · have e1 : (xr != router) = true := by simpa using q1
              by_cases q2 : xa = into
              · have e2 : (xa != into) = false := by simpa using q2
                have NX := Lib.hid (SK.out (by simp [bndB, q2]) W3 HB3.out)
                clear q1 q2
                clear SK TA LC FC
                go_wp2_with fail
                go_roundw
                case rel => exact ⟨k + 1, by go_num, NX⟩
                case measure => simp [intOf]; have := KC.out; omega
              · have e2 : (xa != into) = true := by simpa using q2
                have IN : (xinter = true ∧ into = 0) ∨ (xinter = false) ∨ (xinter = true ∧ ¬ into = 0) := by
                  cases xinter
                  · exact .inr (.inl rfl)
                  · by_cases z : into = 0
                    · exact .inl ⟨rfl, z⟩
                    · exact .inr (.inr ⟨rfl, z⟩)
                rcases IN with ⟨r1, r2⟩ | r1 | ⟨r1, r2⟩
                · subst r1
                  have e3 : (into != 0) = false := by simpa using r2
                  have NX := Lib.hid (SK.out (by simp [bndB, r2]) W3 HB3.out)
                  clear q1 q2 r2
                  clear SK TA LC FC
                  go_wp2_with fail
                  go_roundw
                  case rel => exact ⟨k + 1, by go_num, NX⟩
                  case measure => simp [intOf]; have := KC.out; omega
                · subst r1
                  have UB : Hid (bndB router into (⟨xr, xa, false, xborder, true, xc, xha, xhn, xhc, xh⟩ : Rch) = goodB xc) := Lib.hid (by simp [bndB, q1, q2])
                  clear q1 q2
                  cases hg : goodB xc with
                  | false =>
                    rw [hg] at FC UB
                    have NX := Lib.hid (SK.out UB.out W3 HB3.out)
                    clear SK TA LC hg
                    go_wp2_with fail
                    refine (FC.out _).mono ?_
                    rintro e w2 ⟨rfl, rfl⟩
                    go_wp2_with fail
                    go_roundw
                    case rel => exact ⟨k + 1, by go_num, NX⟩
                    case measure => simp [intOf]; have := KC.out; omega
                  | true =>
                    rw [hg] at FC UB
                    have TA2 := Lib.hid (fun w4 m g4 => TA.out UB.out W3 w4 HB3.out m g4)
                    clear SK TA hg
                    go_wp2_with fail
                    refine (FC.out _).mono ?_
                    rintro e w2 ⟨rfl, rfl⟩
                    go_wp2_with fail
                    refine LC.out.mono ?_
                    rintro e w4 ⟨rfl, M4, G4⟩
                    have NX := Lib.hid (TA2.out w4 M4 G4)
                    clear M4 G4 TA2 LC FC z0 z1 z2 z4 z5 y0
                    go_wp2_with fail
                    go_roundw
                    case rel => exact ⟨k + 1, by go_num, NX⟩
                    case measure => simp [intOf]; have := KC.out; omega
                · subst r1
                  have e3 : (into != 0) = true := by simpa using r2
                  have UB : Hid (bndB router into (⟨xr, xa, true, xborder, true, xc, xha, xhn, xhc, xh⟩ : Rch) = goodB xc) := Lib.hid (by simp [bndB, q1, q2, r2])
                  clear q1 q2 r2
                  cases hg : goodB xc with
                  | false =>
                    rw [hg] at FC UB
                    have NX := Lib.hid (SK.out UB.out W3 HB3.out)
                    clear SK TA LC hg
                    go_wp2_with fail
                    refine (FC.out _).mono ?_
                    rintro e w2 ⟨rfl, rfl⟩
                    go_wp2_with fail
                    go_roundw
                    case rel => exact ⟨k + 1, by go_num, NX⟩
                    case measure => simp [intOf]; have := KC.out; omega
                  | true =>
                    rw [hg] at FC UB
                    have TA2 := Lib.hid (fun w4 m g4 => TA.out UB.out W3 w4 HB3.out m g4)
                    clear SK TA hg
                    go_wp2_with fail
                    refine (FC.out _).mono ?_
                    rintro e w2 ⟨rfl, rfl⟩
                    go_wp2_with fail
                    refine LC.out.mono ?_
                    rintro e w4 ⟨rfl, M4, G4⟩
                    have NX := Lib.hid (TA2.out w4 M4 G4)
                    clear M4 G4 TA2 LC FC z0 z1 z2 z4 z5 y0
                    go_wp2_with fail
                    go_roundw
                    case rel => exact ⟨k + 1, by go_num, NX⟩
                    case measure => simp [intOf]; have := KC.out; omega
        · --WEND
          have ek : k = l.length := by omega
          subst ek
          have MU := Lib.hid Q.out.mu
          have QQ := Lib.hid Q.out
          clear Q c
          obtain ⟨WP, eWP⟩ : ∃ x, x = wr := ⟨_, rfl⟩
          subst eWP
          go_wp2_with (at_range; refine wpList_rangeF _ rfl _ 81 rfl 3 Tryz.u32Key Tryz.underlying81 WO.heap.size l.length (bndK router into l l.length) rfl MU.out ?_; intro w5 cnt5 hcnt5 hrg5 hg5 hs5)
          have B5 : Below WP.heap.size WP w5 := ⟨hg5.os, hg5.tape, hg5.output, hg5.size, fun i hi => hg5.block i hi (by simp)⟩
          have O5 : Hid (Ou 22 u32Ok (intLit .u32) (bndL router) w ⟨router, ia, iN, ic, ra, rn, rc⟩ WO.heap.size WP.heap.size l.length (bndK router into l l.length) (fun x => ((bndK router into l l.length) x).isSome) cnt5 out out vA w5) := Lib.hid (by
            have Q5 := QQ.out.grow B5
            exact Ou.start hrg5 hcnt5 Q5.own ND.out Q5.bx Q5.bel (by have := MU.out.lt; have := QQ.out.hm; omega))
          clear hrg5 hg5 hs5 hcnt5 B5 MU QQ
          generalize WP.heap.size = rb2 at *
          go_loopw [9] (fun v wq => ∃ (left : Int → Bool) (cnt : Nat) (out2 : List Lsa), Hid (Ou 22 u32Ok (intLit .u32) (bndL router) w ⟨router, ia, iN, ic, ra, rn, rc⟩ WO.heap.size rb2 l.length (bndK router into l l.length) left cnt out out2 v wq)) (fun _ wq => wq.rangeLeft WO.heap.size rb2)
          case atStart => exact ⟨_, _, _, O5⟩
          case round =>
            clear O5
            obtain ⟨left, cnt, out2, Q⟩ := hrel
            obtain ⟨vB, hvB⟩ : ∃ z, z = u9 := ⟨_, rfl⟩
            subst hvB
            go_wp2_with (at_next; refine wpList_nextF _ rfl _ rfl Tryz.u32Key WO.heap.size rb2 l.length (bndK router into l l.length) left cnt rfl Q.out.rng ?_ ?_)
            · intro hl0
              --DONE3
              have LEN2 : out2.length < 4611686018427387904 := by
                have h1 := Q.out.len; have h2 := LEN.out; have h3 := HNN.out; have h5 := N1.out; have h6 := N3.out
                have h4 : rs.length * lr.length ≤ 100 * 64 := Nat.mul_le_mul N1.out N2.out
                omega
              have SC := Lib.hid (sort_lsas (w.heap.size + 1) wr vB out2 Q.out.own LEN2)
              have FIN := Lib.hid (fun (w6 : World) (L' : List Lsa) (P : L'.Perm out2) (Uo : L'.Pairwise fun a b => 0 ≤ kkCmp (lkOf b) (lkOf a)) (O : LsaRow (w.heap.size + 1) w6 vB L') (B : Below (w.heap.size + 1) wr w6) => (by
                refine ⟨vB, L', rfl, SlV.of_own (base := w.heap.size + 1) (e := 47) (lsaE_len L') (by rw [List.length_map]; exact O), ⟨asc_of_sorted P Q.out.nd Uo, g, HMN.out, fun x => ?_⟩, Q.out.bel.trans (B.mono (by omega))⟩
                rw [P.mem_iff, Q.out.mem x, MEM1.out x]
                refine or_congr Iff.rfl ⟨?_, ?_⟩
                · rintro ⟨r, c, h1, _, h2, h3⟩
                  exact ⟨r, c, h1, h2, h3⟩
                · rintro ⟨r, c, h1, h2, h3⟩
                  exact ⟨r, c, h1, hl0 r h1, h2, h3⟩ : SuPost w ⟨router, ia, iN, ic, ra, rn, rc⟩ lr into rs l (.returned vB) w6))
              clear hl0 Q LEN2
              go_wp2_with fail
              refine SC.out.mono ?_
              rintro e w6 ⟨rfl, L', P, Uo, O, B⟩
              have FI := Lib.hid (FIN.out w6 L' P Uo O B)
              clear P Uo O B SC FIN
              go_wp2_with fail
              go_ret
              exact FI.out
            · intro p co w1 cnt1 hok1 hl1 hf1 hrg1 hlt hg1 hs1 hen
              --MORE3
              have hrb := Q.out.hr
              have bw1 : w1.heap[w.heap.size]? = some (.cells (cfgE ⟨router, ia, iN, ic, ra, rn, rc⟩).toArray 26 (0, 0)) := (hg1.block _ (blk_lt Q.out.bx) (by simp; omega)).trans Q.out.bx
              simp only [cfgE] at bw1
              have y0 : w1.cell? ⟨w.heap.size, 0, none⟩ = some (.int .u32 router) := blk_cell bw1 rfl
              have QL := Lib.hid Q.out.rng.left_eq
              have LT := Lib.hid hlt
              have LEN2 := Lib.hid (show out2.length ≤ 6500 + 2097152 by
                have h1 := Q.out.len; have h2 := LEN.out; have h3 := HNN.out; have h5 := N1.out; have h6 := N3.out
                have h4 : rs.length * lr.length ≤ 100 * 64 := Nat.mul_le_mul N1.out N2.out
                omega)
              obtain ⟨W3, hW3⟩ : ∃ W3, w1.alloc (.cells #[.int .i64 4, .int .u32 p, .int .i64 0, .int .u32 router, .int .i64 0, .int .i64 0, .int .i64 0, .bool false, .bool false, .slice none 0 0, .slice none 0 0, .int .i64 co, .bool false, .int .u32 0, .int .i64 0] 47) = W3 := ⟨_, rfl⟩
              have B3 : Below w1.heap.size w1 W3 := by rw [← hW3]; exact (Below.refl _ _).alloc (Nat.le_refl _) _
              have OWN := Lib.hid (Q.out.own1 hg1 B3)
              have BK : Hid (W3.heap[w1.heap.size]? = some (.cells (List.toArray [.int .i64 4, .int .u32 p, .int .i64 0, .int .u32 router, .int .i64 0, .int .i64 0, .int .i64 0, .bool false, .bool false, .slice none 0 0, .slice none 0 0, .int .i64 co, .bool false, .int .u32 0, .int .i64 0]) 47 (0, 0))) := Lib.hid (by rw [← hW3]; exact alloc_new _ _)
              have ONE : Hid (∀ u ∈ ([.int .i64 4, .int .u32 p, .int .i64 0, .int .u32 router, .int .i64 0, .int .i64 0, .int .i64 0, .bool false, .bool false, .slice none 0 0, .slice none 0 0, .int .i64 co, .bool false, .int .u32 0, .int .i64 0] : List Value), u.oneCell' = true) := Lib.hid (lsaE_one (bndL router p co))
              have K1 : Hid (out2.length + 1 ≤ maxLen) := Lib.hid (by have := LEN2.out; unfold maxLen; omega)
              have K2 : Hid ((out2.length + 1) * 136 ≤ 140737488355328) := Lib.hid (by have := LEN2.out; omega)
              have BS : Hid (w.heap.size + 1 ≤ W3.heap.size) := Lib.hid (by have h1 := Q.out.rng.lt.1; have h2 := hg1.size; have h3 := B3.size; omega)
              have DIF : ∀ x ∈ out, ∀ p c, lkOf x ≠ lkOf (bndL router p c) := by
                intro x hx p c e
                obtain ⟨q, d, _, _, rfl⟩ := (MEM1.out x).1 hx
                simp [lkOf, sumL, bndL] at e
              have STEP := Lib.hid (fun v' w4 own' hg4 => Q.out.step (mk := bndL router) (p := p) (c := co) (w4 := w4) (v' := v') (bndL_key router) DIF hok1 hl1 hf1 hrg1 hlt hg1 B3 own' hg4)
              have HW3 := Lib.hid hW3
              simp only [costV] at hen ⊢
              clear hrb bw1 hW3 B3 Q hok1 hl1 hf1 hrg1 hlt hg1 hs1 DIF
              go_wp2_with (at_builtin; rw [HW3.out]; refine wpList_append_one rfl (.tmp 89) (.tmp 96) 32 rfl (w.heap.size + 1) 47 i0 (.agg #[.int .i64 0, .int .u32 0, .int .i64 0, .int .u32 0, .int .i64 0, .int .i64 0, .int .i64 0, .bool false, .bool false, .slice none 0 0, .slice none 0 0, .int .i64 0, .bool false, .int .u32 0, .int .i64 0]) 15 136 Tryz.underlying32 ?g1 ?g2 ?g3 ?g4 ?g5 ?g6 vB out2.length _ ?g7 OWN.out w1.heap.size [.int .i64 4, .int .u32 p, .int .i64 0, .int .u32 router, .int .i64 0, .int .i64 0, .int .i64 0, .bool false, .bool false, .slice none 0 0, .slice none 0 0, .int .i64 co, .bool false, .int .u32 0, .int .i64 0] 47 ?g8 BK.out ?g9 ONE.out K1.out K2.out BS.out ?_; (case g1 => exact HI0.out); (case g2 => exact HZ0.out); (case g3 => exact HZ1.out); (case g4 => exact HZ2.out); (case g5 => exact rfl); (case g6 => decide); (case g7 => exact rfl); (case g8 => exact rfl); (case g9 => exact rfl); intro v' w4 own' hg4 d; have NX := Lib.hid (STEP.out v' w4 own' hg4); clear own' hg4 d)
              go_roundw
              case rel => exact ⟨_, _, _, NX⟩
              case measure => rw [NX.out.rng.left_eq, QL.out]; exact LT.out
    · intro p co w1 cnt1 hok1 hl1 hf1 hrg1 hlt hg1 hs1 hen
      --MORE1
      have hrb := Q.out.hr
      have bw1 : w1.heap[w.heap.size]? = some (.cells (cfgE ⟨router, ia, iN, ic, ra, rn, rc⟩).toArray 26 (0, 0)) := (hg1.block _ (blk_lt Q.out.bx) (by simp; omega)).trans Q.out.bx
      simp only [cfgE] at bw1
      have QL := Lib.hid Q.out.rng.left_eq
      have LT := Lib.hid hlt
      have LEN := Lib.hid Q.out.len
      obtain ⟨WB, hWB⟩ : ∃ WB, w1.alloc (.cells #[.int .u32 p.addr, .int .i64 p.len] 55) = WB := ⟨_, rfl⟩
      have BB : Below w1.heap.size w1 WB := by rw [← hWB]; exact (Below.refl _ _).alloc (Nat.le_refl _) _
      have bp : WB.heap[w1.heap.size]? = some (.cells #[.int .u32 p.addr, .int .i64 p.len] 55 (0, 0)) := by rw [← hWB]; exact alloc_new _ _
      have y0 : WB.cell? ⟨w.heap.size, 0, none⟩ = some (.int .u32 router) := blk_cell ((BB.block _ (blk_lt bw1)).trans bw1) rfl
      obtain ⟨pa, pl⟩ := p
      simp only at hWB bp
      have z0 := blk_cell (i := 0) bp rfl
      have z1 := blk_cell (i := 1) bp rfl
      obtain ⟨W3, hW3⟩ : ∃ W3, WB.alloc (.cells #[.int .i64 3, .int .u32 pa, .int .i64 pl, .int .u32 router, .int .i64 0, .int .i64 0, .int .i64 0, .bool false, .bool false, .slice none 0 0, .slice none 0 0, .int .i64 co, .bool false, .int .u32 0, .int .i64 0] 47) = W3 := ⟨_, rfl⟩
      have B3 : Below WB.heap.size WB W3 := by rw [← hW3]; exact (Below.refl _ _).alloc (Nat.le_refl _) _
      have B13 := BB.trans (B3.mono BB.size)
      have OWN := Lib.hid (Q.out.own1 hg1 B13)
      have BK : Hid (W3.heap[WB.heap.size]? = some (.cells (List.toArray [.int .i64 3, .int .u32 pa, .int .i64 pl, .int .u32 router, .int .i64 0, .int .i64 0, .int .i64 0, .bool false, .bool false, .slice none 0 0, .slice none 0 0, .int .i64 co, .bool false, .int .u32 0, .int .i64 0]) 47 (0, 0))) := Lib.hid (by rw [← hW3]; exact alloc_new _ _)
      have ONE : Hid (∀ u ∈ ([.int .i64 3, .int .u32 pa, .int .i64 pl, .int .u32 router, .int .i64 0, .int .i64 0, .int .i64 0, .bool false, .bool false, .slice none 0 0, .slice none 0 0, .int .i64 co, .bool false, .int .u32 0, .int .i64 0] : List Value), u.oneCell' = true) := Lib.hid (lsaE_one (sumL router ⟨pa, pl⟩ co))
      have K1 : Hid (out.length + 1 ≤ maxLen) := Lib.hid (by
        have h4 : rs.length * lr.length ≤ 100 * 64 := Nat.mul_le_mul N1.out N2.out
        have h5 := HNN.out; have h6 := LEN.out; have h7 := N1.out
        simp only [List.length_nil] at h6
        unfold maxLen
        omega)
      have K2 : Hid ((out.length + 1) * 136 ≤ 140737488355328) := Lib.hid (by
        have h4 : rs.length * lr.length ≤ 100 * 64 := Nat.mul_le_mul N1.out N2.out
        have h5 := HNN.out; have h6 := LEN.out; have h7 := N1.out
        simp only [List.length_nil] at h6
        omega)
      have BS : Hid (w.heap.size + 1 ≤ W3.heap.size) := Lib.hid (by have h1 := Q.out.rng.lt.1; have h2 := hg1.size; have h3 := B13.size; omega)
      have STEP := Lib.hid (fun v' w4 own' hg4 => Q.out.step (mk := sumL router) (p := ⟨pa, pl⟩) (c := co) (w4 := w4) (v' := v') (sumL_key router) (fun x hx => by cases hx) hok1 hl1 hf1 hrg1 hlt hg1 B13 own' hg4)
      have HWB := Lib.hid hWB
      have HW3 := Lib.hid hW3
      simp only [costV, pfxV] at hen ⊢
      clear hrb bw1 BB bp hWB hW3 B3 B13 Q hok1 hl1 hf1 hrg1 hlt hg1 hs1
      go_upto_region 5 with fail
      rw [HWB.out]
      go_wp2_with (at_builtin; rw [HW3.out]; refine wpList_append_one rfl (.tmp 27) (.tmp 37) 32 rfl (w.heap.size + 1) 47 i0 (.agg #[.int .i64 0, .int .u32 0, .int .i64 0, .int .u32 0, .int .i64 0, .int .i64 0, .int .i64 0, .bool false, .bool false, .slice none 0 0, .slice none 0 0, .int .i64 0, .bool false, .int .u32 0, .int .i64 0]) 15 136 Tryz.underlying32 ?g1 ?g2 ?g3 ?g4 ?g5 ?g6 vA out.length _ ?g7 OWN.out WB.heap.size [.int .i64 3, .int .u32 pa, .int .i64 pl, .int .u32 router, .int .i64 0, .int .i64 0, .int .i64 0, .bool false, .bool false, .slice none 0 0, .slice none 0 0, .int .i64 co, .bool false, .int .u32 0, .int .i64 0] 47 ?g8 BK.out ?g9 ONE.out K1.out K2.out BS.out ?_; (case g1 => exact HI0.out); (case g2 => exact HZ0.out); (case g3 => exact HZ1.out); (case g4 => exact HZ2.out); (case g5 => exact rfl); (case g6 => decide); (case g7 => exact rfl); (case g8 => exact rfl); (case g9 => exact rfl); intro v' w4 own' hg4 d; have NX := Lib.hid (STEP.out v' w4 own' hg4); clear own' hg4 d)
      go_roundw
      case rel => exact ⟨_, _, _, NX⟩
      case measure => rw [NX.out.rng.left_eq, QL.out]; exact LT.out

end Go.Proofs.YtogdconliofblaaGreat
