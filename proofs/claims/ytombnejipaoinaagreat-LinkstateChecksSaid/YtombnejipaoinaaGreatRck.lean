/-
  routingref35.Check.
-/
import Derived.Test.YtombnejipaoinaaGreatLcx
namespace Go.Proofs.YtombnejipaoinaaGreat
open Go.RowKit

theorem orI_zero : ∀ {l : List Int}, orI l = 0 → ∀ x ∈ l, x = 0
  | [], _, x, hx => by cases hx
  | y :: l, h, x, hx => by
    unfold orI at h
    by_cases c : y = 0
    · rw [if_pos c] at h
      rcases List.mem_cons.1 hx with rfl | hx
      · exact c
      · exact orI_zero h x hx
    · rw [if_neg c] at h; exact absurd h c
theorem chk26_valid {x : If9} (h : chk26 x = 0) : validP x.pfx = true := by
  unfold chk26 at h
  by_cases c1 : withinB x.kind 1 3 = false
  · rw [if_pos c1] at h; omega
  · rw [if_neg c1] at h
    by_cases c2 : fitsB x.pa x.pl = false ∨ x.ad = 0 ∨ inB x.pa x.pl x.ad = false
    · rw [if_pos c2] at h; omega
    · have : fitsB x.pa x.pl = true := by
        cases hf : fitsB x.pa x.pl with
        | true => rfl
        | false => exact absurd (.inl hf) c2
      exact this

theorem ag_two {W : World} {b o o2 : Nat} {x y : Arg} (hx : AgCells W b o x) (hy : AgCells W b o2 y) (ho : o2 = o + 4) : ∀ i (h : i < ([x, y].map agE).length) m u, ([x, y].map agE)[i][m]? = some u → W.cell? ⟨b, o + i * 4 + m, none⟩ = some u := by
  subst ho
  obtain ⟨a0, a1, a2, a3⟩ := hx
  obtain ⟨b0, b1, b2, b3⟩ := hy
  intro i hi m u hu
  match i, hi, m with
  | 0, _, 0 => exact a0.trans hu
  | 0, _, 1 => exact a1.trans hu
  | 0, _, 2 => exact a2.trans hu
  | 0, _, 3 => exact a3.trans hu
  | 0, _, _ + 4 => simp [agE] at hu
  | 1, _, 0 => exact b0.trans hu
  | 1, _, 1 => exact b1.trans hu
  | 1, _, 2 => exact b2.trans hu
  | 1, _, 3 => exact b3.trans hu
  | 1, _, _ + 4 => simp [agE] at hu
  | _ + 2, h, _ => exact absurd h (by simp)

set_option maxHeartbeats 16000000 in
set_option maxRecDepth 100000 in
theorem rkcheck_calls (w : World) (r : Int) (vi vr : Value) (ifs : List If9) (rgs : List Arg) (hi : IfsAt w vi ifs) (hr : RngsAt w vr rgs) (oki : ∀ x ∈ ifs, OkI x) (okr : ∀ o ∈ rgs, OkP o.pfx) :
    Calls Tryz.prog 8 #[.agg #[.int .u32 r, vi, vr]] w (C26Post w (cfC r ifs rgs)) := by
  obtain ⟨ia, ic, rfl, hil, -, hic⟩ := hi.get
  have HI := Lib.hid hic
  have OKI : Hid (∀ k, k < ifs.length → OkI (ifAt ifs k)) := Lib.hid (fun k c => by rw [ifAt_eq c]; exact oki _ (List.getElem_mem c))
  obtain ⟨ra, cp, rfl, hrl, hrc⟩ := hr.get
  obtain ⟨ra2, cp2, e2, hcp, hcm, -⟩ := hr
  simp only [List.length_map] at e2 hcp
  cases e2
  have HC := Lib.hid hrc
  have OK : Hid (∀ k, k < rgs.length → OkP (argAt rgs k).pfx) := Lib.hid (fun k c => by rw [argAt_eq c]; exact okr _ (List.getElem_mem c))
  clear hi hrc hic oki okr
  obtain ⟨W0, hW0⟩ : ∃ W0, w.alloc (.cells #[.int .u32 r, .slice ia ifs.length ic, .slice ra rgs.length cp] 26) = W0 := ⟨_, rfl⟩
  have B0 : Hid (W0.heap[w.heap.size]? = some (.cells #[.int .u32 r, .slice ia ifs.length ic, .slice ra rgs.length cp] 26 (0, 0))) := Lib.hid (by rw [← hW0]; exact alloc_new w _)
  have G0 : Hid (Gr w W0) := Lib.hid (by rw [← hW0]; exact (Gr.refl _).alloc _)
  have c0 : W0.cell? ⟨w.heap.size, 0, none⟩ = some (.int .u32 r) := blk_cell B0.out rfl
  have c1 : W0.cell? ⟨w.heap.size, 1, none⟩ = some (.slice ia ifs.length ic) := blk_cell B0.out rfl
  have c2 : W0.cell? ⟨w.heap.size, 2, none⟩ = some (.slice ra rgs.length cp) := blk_cell B0.out rfl
  have HW0 := Lib.hid hW0
  clear hW0
  by_cases h1 : r = 0
  · subst h1
    have E : Hid (cfC 0 ifs rgs = 5) := Lib.hid (by simp [cfC])
    rw [E.out]
    go_enter Tryz.func8, Tryz.ntmps8
    go_upto_region 1 with fail
    rw [HW0.out]
    go_wp2_with fail
    go_ret
    exact ⟨rfl, G0.out⟩
  have h1' : (r == 0) = false := by simpa using h1
  by_cases h2 : ifs.length = 0
  · have E : Hid (cfC r ifs rgs = 1) := Lib.hid (by simp [cfC, h1, h2])
    rw [E.out]
    have h2' : (((ifs.length : Nat) : Int) == 0) = true := by simp [h2]
    clear h1 h2
    go_enter Tryz.func8, Tryz.ntmps8
    go_upto_region 1 with fail
    rw [HW0.out]
    go_wp2_with fail
    go_ret
    exact ⟨rfl, G0.out⟩
  have h2' : (((ifs.length : Nat) : Int) == 0) = false := by
    have : ((ifs.length : Nat) : Int) ≠ 0 := by omega
    simpa using this
  by_cases h3 : 16 < ifs.length
  · have E : Hid (cfC r ifs rgs = 4) := Lib.hid (by unfold cfC; rw [if_neg h1, if_neg h2, if_pos (.inl h3)])
    rw [E.out]
    have h3' : decide ((16 : Int) < (ifs.length : Int)) = true := decide_eq_true (by omega)
    clear h1 h2 h3
    go_enter Tryz.func8, Tryz.ntmps8
    go_upto_region 1 with fail
    rw [HW0.out]
    go_wp2_with fail
    go_ret
    exact ⟨rfl, G0.out⟩
  have h3' : decide ((16 : Int) < (ifs.length : Int)) = false := decide_eq_false (by omega)
  by_cases h4 : 64 < rgs.length
  · have E : Hid (cfC r ifs rgs = 4) := Lib.hid (by unfold cfC; rw [if_neg h1, if_neg h2, if_pos (.inr h4)])
    rw [E.out]
    have h4' : decide ((64 : Int) < (rgs.length : Int)) = true := decide_eq_true (by omega)
    clear h1 h2 h3 h4
    go_enter Tryz.func8, Tryz.ntmps8
    go_upto_region 1 with fail
    rw [HW0.out]
    go_wp2_with fail
    go_ret
    exact ⟨rfl, G0.out⟩
  have h4' : decide ((64 : Int) < (rgs.length : Int)) = false := decide_eq_false (by omega)
  have E0 : Hid (cfC r ifs rgs = if ifsC ifs = 0 then rngC rgs else ifsC ifs) := Lib.hid (by unfold cfC; rw [if_neg h1, if_neg h2, if_neg (by omega)])
  rw [E0.out]
  generalize hRES : (if ifsC ifs = 0 then rngC rgs else ifsC ifs) = RES
  have RH := Lib.hid hRES
  clear hRES
  have R16 : Hid (ifs.length ≤ 16 ∧ rgs.length ≤ 64) := Lib.hid (by omega)
  clear h1 h2 h3 h4 E0
  have mixed : Tryz.prog.follows .mixedOrders = true := by kernel_rfl
  have CB : Hid (∀ W, Gr W0 W → W.cell? ⟨w.heap.size, 1, none⟩ = some (.slice ia ifs.length ic) ∧ W.cell? ⟨w.heap.size, 2, none⟩ = some (.slice ra rgs.length cp)) := Lib.hid (fun W g => by
    have b := (g.b.block _ (blk_lt B0.out)).trans B0.out
    exact ⟨blk_cell b rfl, blk_cell b rfl⟩)
  go_enter Tryz.func8, Tryz.ntmps8
  go_upto_region 1 with fail
  rw [HW0.out]
  go_wp2_with fail
  clear c0 c1 c2 B0 HW0
  go_loopw [3] (fun i wr => ∃ k : Nat, i = .int .i64 k ∧ k ≤ ifs.length ∧ Hid (Gr W0 wr) ∧ Hid (orI (ifs.map chk26) = orI ((ifs.map chk26).drop k))) (fun i _ => ifs.length - (intOf i).toNat)
  case atStart => exact ⟨0, rfl, Nat.zero_le _, Lib.hid (Gr.refl _), Lib.hid rfl⟩
  case round =>
    obtain ⟨k, rfl, hk, GR, E⟩ := hrel
    have cf := (CB.out _ GR.out).1
    by_cases c : k < ifs.length
    · obtain ⟨b, off, rfl, hb0, hcc⟩ := HI.out (by omega)
      obtain ⟨⟨d0, d1, d2, d3⟩, d4, d5, d6, d7, d8⟩ : IfCells wr b (off + k * 9) (ifAt ifs k) := by rw [ifAt_eq c]; exact (hcc k c).below (G0.out.trans GR.out).b hb0
      have CK := Lib.hid (fun W => check26_calls (ifAt ifs k) W (OKI.out k c))
      have E2 := Lib.hid (orI_chk ifs k c)
      have KC := Lib.hid c
      have i0 : (0 : Int) ≤ (k : Int) := by omega
      have i1 : (k : Int) < (ifs.length : Int) := by omega
      have s3 : ((k : Int)).toNat = k := by omega
      have IF : Hid (orI (ifs.map chk26) ≠ 0 → RES = orI (ifs.map chk26)) := Lib.hid (fun h => by
        rw [← RH.out]
        have e : ifsC ifs = orI (ifs.map chk26) := by unfold ifsC; rw [if_neg h]
        rw [e, if_neg h])
      clear hcc c
      generalize ifAt ifs k = x at *
      obtain ⟨kind, pa, pl, ad, area, cost, prio, hel, dead⟩ := x
      simp only [if9E] at d0 d1 d2 d3 d4 d5 d6 d7 d8 CK E2
      generalize chk26 ⟨kind, pa, pl, ad, area, cost, prio, hel, dead⟩ = cv at *
      by_cases q : cv = 0
      · have q' : (cv != 0) = false := by simpa using q
        have N : Hid (orI (ifs.map chk26) = orI ((ifs.map chk26).drop (k + 1))) := Lib.hid (by rw [E.out, E2.out, if_pos q])
        clear E E2 q
        go_wp2_with fail
        refine (CK.out _).mono ?_
        rintro e w1 ⟨rfl, G1⟩
        have G2 := Lib.hid (GR.out.trans G1)
        clear G1 CK d0 d1 d2 d3 d4 d5 d6 d7 d8 cf
        go_wp2_with fail
        go_roundw
        case rel => exact ⟨k + 1, by go_num, KC.out, G2, N⟩
        case measure => simp [intOf]; have := KC.out; omega
      · have q' : (cv != 0) = true := by simpa using q
        have Y : Hid (RES = cv) := Lib.hid (by
          have e : orI (ifs.map chk26) = cv := by rw [E.out, E2.out, if_neg q]
          rw [IF.out (by rw [e]; exact q), e])
        clear E E2 q
        go_wp2_with fail
        refine (CK.out _).mono ?_
        rintro e w1 ⟨rfl, G1⟩
        have G2 := Lib.hid ((G0.out.trans GR.out).trans G1)
        clear G1 CK d0 d1 d2 d3 d4 d5 d6 d7 d8 cf
        go_wp2_with fail
        go_returns
        exact ⟨by rw [Y.out]; rfl, G2.out⟩
    · have Z0 : Hid (orI (ifs.map chk26) = 0) := Lib.hid (by rw [E.out, List.drop_eq_nil_of_le (by simp; omega)]; rfl)
      have VAL : Hid (∀ i, i < ifs.length → validP (ifAt ifs i).pfx = true) := Lib.hid (fun i hi => chk26_valid (orI_zero Z0.out _ (List.mem_map.2 ⟨_, by rw [ifAt_eq hi]; exact List.getElem_mem hi, rfl⟩)))
      have RES1 : Hid (RES = if ovB ifs = true then 7 else rngC rgs) := Lib.hid (by
        rw [← RH.out]
        unfold ifsC
        rw [if_pos Z0.out]
        cases ovB ifs <;> simp)
      clear E
      go_wp2_with fail
      clear cf
      go_loopw [5] (fun i wr => ∃ k : Nat, i = .int .i64 k ∧ k ≤ ifs.length ∧ Hid (Gr W0 wr) ∧ Hid (∀ i, i < k → ∀ m, m < i → overB (ifAt ifs i).pfx (ifAt ifs m).pfx = false)) (fun i _ => ifs.length - (intOf i).toNat)
      case atStart => exact ⟨0, rfl, Nat.zero_le _, GR, Lib.hid (fun i hi => absurd hi (by omega))⟩
      case round =>
        clear GR c hk
        obtain ⟨k, rfl, hk, GR, NO⟩ := hrel
        have cf := (CB.out _ GR.out).1
        by_cases c : k < ifs.length
        · have KC := Lib.hid c
          have YES : Hid (∀ j, j < k → overB (ifAt ifs k).pfx (ifAt ifs j).pfx = true → ovB ifs = true) := Lib.hid (fun j hj h => ovB_true KC.out hj h)
          have NX : Hid ((∀ j, j < k → overB (ifAt ifs k).pfx (ifAt ifs j).pfx = false) → ∀ i, i < k + 1 → ∀ m, m < i → overB (ifAt ifs i).pfx (ifAt ifs m).pfx = false) := Lib.hid (fun h i hi m hm => by
            rcases Nat.lt_or_ge i k with h' | h'
            · exact NO.out i h' m hm
            · obtain rfl : i = k := by omega
              exact h m hm)
          clear NO
          go_wp2_with fail
          clear cf
          go_loopw [6] (fun i wi => ∃ j : Nat, i = .int .i64 j ∧ j ≤ k ∧ Hid (Gr W0 wi) ∧ Hid (∀ m, m < j → overB (ifAt ifs k).pfx (ifAt ifs m).pfx = false)) (fun i _ => k - (intOf i).toNat)
          case atStart => exact ⟨0, rfl, Nat.zero_le _, GR, Lib.hid (fun m hm => absurd hm (by omega))⟩
          case round =>
            obtain ⟨j, rfl, hj, GI, NI⟩ := hrel
            by_cases c2 : j < k
            · obtain ⟨b, off, rfl, hb0, hcc⟩ := HI.out (by have := KC.out; omega)
              have GW := Lib.hid (G0.out.trans GI.out)
              have cf := (CB.out _ GI.out).1
              obtain ⟨⟨d0, d1, d2, d3⟩, d4, d5, d6, d7, d8⟩ : IfCells wr b (off + k * 9) (ifAt ifs k) := by rw [ifAt_eq KC.out]; exact (hcc k KC.out).below GW.out.b hb0
              obtain ⟨⟨e0, e1, e2, e3⟩, e4, e5, e6, e7, e8⟩ : IfCells wr b (off + j * 9) (ifAt ifs j) := by rw [ifAt_eq (by have := KC.out; omega)]; exact (hcc j (by have := KC.out; omega)).below GW.out.b hb0
              clear d0 d3 d4 d5 d6 d7 d8 e0 e3 e4 e5 e6 e7 e8
              have OJ := Lib.hid (fun W => roverlap_calls (ifAt ifs k).pfx (ifAt ifs j).pfx ⟨(OKI.out k KC.out).a0, (OKI.out k KC.out).a1⟩ ⟨(OKI.out j (by have := KC.out; omega)).a0, (OKI.out j (by have := KC.out; omega)).a1⟩ (VAL.out k KC.out) (VAL.out j (by have := KC.out; omega)) W)
              have YJ := Lib.hid (YES.out j c2)
              have NJ : Hid (overB (ifAt ifs k).pfx (ifAt ifs j).pfx = false → ∀ m, m < j + 1 → overB (ifAt ifs k).pfx (ifAt ifs m).pfx = false) := Lib.hid (fun h m hm => by
                rcases Nat.lt_or_ge m j with h' | h'
                · exact NI.out m h'
                · obtain rfl : m = j := by omega
                  exact h)
              have CJ := Lib.hid c2
              have i0 : (0 : Int) ≤ (k : Int) := by omega
              have i1 : (k : Int) < (ifs.length : Int) := by have := KC.out; omega
              have s3 : ((k : Int)).toNat = k := by omega
              have j0 : (0 : Int) ≤ (j : Int) := by omega
              have j1 : (j : Int) < (ifs.length : Int) := by have := KC.out; omega
              have j2 : (j : Int) < (k : Int) := by omega
              have t3 : ((j : Int)).toNat = j := by omega
              clear NI c2 hcc hb0
              generalize overB (ifAt ifs k).pfx (ifAt ifs j).pfx = ov at OJ YJ NJ
              simp only [If9.pfx] at OJ
              generalize (ifAt ifs k).pa = pa at d1 OJ
              generalize (ifAt ifs k).pl = pl at d2 OJ
              generalize (ifAt ifs j).pa = qa at e1 OJ
              generalize (ifAt ifs j).pl = ql at e2 OJ
              go_wp2_with fail
              go_region_held3 (fun W' => W'.cell? ⟨w.heap.size, 1, none⟩ = some (.slice (some ⟨b, off, none⟩) ifs.length ic) ∧ W'.cell? ⟨b, off + k * 9 + 1, none⟩ = some (.int .u32 pa) ∧ W'.cell? ⟨b, off + k * 9 + 2, none⟩ = some (.int .i64 pl) ∧ W'.cell? ⟨b, off + j * 9 + 1, none⟩ = some (.int .u32 qa) ∧ W'.cell? ⟨b, off + j * 9 + 2, none⟩ = some (.int .i64 ql))
                (first | exact ⟨cf, d1, d2, e1, e2⟩ | exact ⟨x0, x1, x2, x3, x4⟩)
                (first | (go_at_call 25; refine (OJ.out _).mono ?_; rintro e w4 ⟨rfl, G4⟩; have x0 := bcell G4.b cf; have x1 := bcell G4.b d1; have x2 := bcell G4.b d2; have x3 := bcell G4.b e1; have x4 := bcell G4.b e2))
              have G5 := Lib.hid (GI.out.drew.trans G4)
              have G6 := Lib.hid (GW.out.drew.trans G4)
              clear cf d1 d2 e1 e2 x0 x1 x2 x3 x4 G4 OJ
              cases ov with
              | true =>
                have Y : Hid (RES = 7) := Lib.hid (by rw [RES1.out, if_pos (YJ.out rfl)])
                clear YJ NJ
                go_wp2_with fail
                go_returns
                exact ⟨by rw [Y.out]; rfl, G6.out⟩
              | false =>
                have N := Lib.hid (NJ.out rfl)
                clear YJ NJ
                go_wp2_with fail
                go_roundw
                case rel => exact ⟨j + 1, by go_num, CJ.out, G5, N⟩
                case measure => simp [intOf]; have := CJ.out; omega
            · have N := Lib.hid (NX.out (fun m hm => NI.out m (by omega)))
              clear NI NX
              go_wp2_with fail
              go_roundw
              case rel => exact ⟨k + 1, by go_num, KC.out, GI, N⟩
              case measure => simp [intOf]; have := KC.out; omega
        · have V : Hid (RES = rngC rgs) := Lib.hid (by rw [RES1.out, ovB_false (fun i hi m hm => NO.out i (by omega) m hm)]; rfl)
          clear NO RES1 RH
          go_wp2_with fail
          clear cf
          go_loopw [7] (fun i wr => ∃ k : Nat, i = .int .i64 k ∧ k ≤ rgs.length ∧ Hid (Gr W0 wr) ∧ Hid (RES = orI ((rcs rgs).drop k)) ∧ Hid (∀ m, m < k → validP (argAt rgs m).pfx = true)) (fun i _ => rgs.length - (intOf i).toNat)
          case atStart => exact ⟨0, rfl, Nat.zero_le _, GR, Lib.hid (by rw [V.out]; rfl), Lib.hid (fun m hm => absurd hm (by omega))⟩
          case round =>
            clear GR c hk V
            obtain ⟨k, rfl, hk, GR, E, VA⟩ := hrel
            have cf := (CB.out _ GR.out).2
            by_cases c : k < rgs.length
            · obtain ⟨b, off, rfl, hb0, hcc⟩ := HC.out (by omega)
              have GW := Lib.hid (G0.out.trans GR.out)
              obtain ⟨d0, d1, d2, d3⟩ : AgCells wr b (off + k * 4) (argAt rgs k) := by rw [argAt_eq c]; exact (hcc k c).below GW.out.b hb0
              have okk : OkP (argAt rgs k).pfx := OK.out k c
              have FC := Lib.hid (fun W => fits_calls (argAt rgs k).pfx.addr (argAt rgs k).pfx.len okk.a0 okk.a1 W)
              have E2 := Lib.hid (orI_rcs rgs k c)
              have RCV : Hid (validP (argAt rgs k).pfx = false → rc rgs k = 1) := Lib.hid (fun h => by unfold rc; rw [if_pos h])
              have RC0 : Hid (validP (argAt rgs k).pfx = true → ¬ 0 < k → rc rgs k = 0) := Lib.hid (fun h h0 => by unfold rc; rw [if_neg (by rw [h]; decide), if_neg (fun z => h0 z.1)])
              have RCA : Hid (validP (argAt rgs k).pfx = true → 0 < k → rc rgs k = if agB (argAt rgs (k - 1)) (argAt rgs k) = false then 16 else 0) := Lib.hid (fun h h0 => by
                unfold rc; rw [if_neg (by rw [h]; decide)]
                by_cases z : agB (argAt rgs (k - 1)) (argAt rgs k) = false
                · rw [if_pos ⟨h0, z⟩, if_pos z]
                · rw [if_neg (fun y => z y.2), if_neg z])
              have KC := Lib.hid c
              have i0 : (0 : Int) ≤ (k : Int) := by omega
              have i1 : (k : Int) < (rgs.length : Int) := by omega
              have s3 : ((k : Int)).toNat = k := by omega
              have VP : Hid (0 < k → validP (argAt rgs (k - 1)).pfx = true) := Lib.hid (fun h0 => VA.out _ (by omega))
              have VN : Hid (validP (argAt rgs k).pfx = true → ∀ m, m < k + 1 → validP (argAt rgs m).pfx = true) := Lib.hid (fun h m hm => by
                rcases Nat.lt_or_ge m k with h' | h'
                · exact VA.out m h'
                · obtain rfl : m = k := by omega
                  exact h)
              clear VA
              have FN : Hid (0 < k → ∀ W, Gr W0 W → Calls Tryz.prog 27 #[.slice (some ⟨b, off + (k - 1) * 4, none⟩) 2 (cp - (k - 1))] W (FineX W (ArgsFine [argAt rgs (k - 1), argAt rgs k]))) := Lib.hid (fun h0 W g => by
                have c' : k - 1 < rgs.length := by omega
                refine fineranges_calls W _ _ ⟨_, _, rfl, ?_, by omega, (fun h => by cases h), fun _ => ⟨b, _, rfl, Nat.lt_of_lt_of_le hb0 (G0.out.trans g).b.size, fun i hi m u hu => ?_⟩⟩ (fun o ho => ?_)
                · show 2 ≤ _
                  omega
                · have hA : AgCells W b (off + (k - 1) * 4) (argAt rgs (k - 1)) := by rw [argAt_eq c']; exact (hcc (k - 1) c').below (G0.out.trans g).b hb0
                  have hB : AgCells W b (off + k * 4) (argAt rgs k) := by rw [argAt_eq c]; exact (hcc k c).below (G0.out.trans g).b hb0
                  exact ag_two hA hB (by omega) i hi m u hu
                · simp only [List.mem_cons, List.not_mem_nil, or_false] at ho
                  rcases ho with rfl | rfl
                  · exact OK.out _ c'
                  · exact OK.out _ c)
              clear hcc okk c
              generalize argAt rgs (k - 1) = z at *
              generalize argAt rgs k = y at *
              obtain ⟨za, ⟨zp, zl⟩, zadv⟩ := z
              obtain ⟨ga, ⟨gp, gl⟩, gadv⟩ := y
              simp only at d0 d1 d2 d3 FC RCV RC0 RCA VP
              generalize rc rgs k = rk at *
              have FB : fitsB gp gl = validP ⟨gp, gl⟩ := rfl
              have AG := (Gr.refl wr).alloc (.cells #[.int .u32 ga, .int .u32 gp, .int .i64 gl, .bool gadv] 77)
              have G1 := Lib.hid (GR.out.trans AG)
              have G2 := Lib.hid (GW.out.trans AG)
              have cf2 := (CB.out _ G1.out).2
              rw [FB] at FC
              clear AG FB
              cases hv : validP ⟨gp, gl⟩ with
              | false =>
                rw [hv] at FC
                have Y : Hid (RES = 1) := Lib.hid (by rw [E.out, E2.out, RCV.out hv, if_neg (by decide)])
                clear E E2 RCV RC0 RCA hv
                go_wp2_with fail
                refine (FC.out _).mono ?_
                rintro e w' ⟨rfl, rfl⟩
                go_wp2_with fail
                go_returns
                exact ⟨by rw [Y.out]; rfl, G2.out⟩
              | true =>
                rw [hv] at FC
                go_wp2_with fail
                refine (FC.out _).mono ?_
                rintro e w' ⟨rfl, rfl⟩
                clear d0 d1 d2 d3 cf FC
                generalize wr.alloc (.cells #[.int .u32 ga, .int .u32 gp, .int .i64 gl, .bool gadv] 77) = W1 at *
                rcases Nat.eq_zero_or_pos k with h0 | h0
                · subst h0
                  have VN := Lib.hid (VN.out hv)
                  have N : Hid (RES = orI ((rcs rgs).drop 1)) := Lib.hid (by rw [E.out, E2.out, RC0.out hv (by omega), if_pos rfl])
                  clear E E2 RCV RC0 RCA hv FN
                  go_wp2_with fail
                  go_roundw
                  case rel => exact ⟨1, by go_num, KC.out, G1, N, VN⟩
                  case measure => simp [intOf]; have := KC.out; omega
                · have RA := Lib.hid (RCA.out hv h0)
                  have VP := Lib.hid (VP.out h0)
                  have VN := Lib.hid (VN.out hv)
                  have FN1 := Lib.hid (FN.out h0 _ G1.out)
                  obtain ⟨j, rfl⟩ : ∃ j, k = j + 1 := ⟨k - 1, by omega⟩
                  rw [Nat.add_sub_cancel] at FN1
                  have j0 : (0 : Int) ≤ (j : Int) := by omega
                  have j1 : (j : Int) < (rgs.length : Int) := by omega
                  have s1 : IntKind.i64.wrap (((j + 1 : Nat) : Int) - 1) = (j : Int) := by rw [IntWalk.i64_in _ (by omega)]; omega
                  have s2 : ((j : Int)).toNat = j := by omega
                  have k1 : decide ((0 : Int) < ((j + 1 : Nat) : Int)) = true := decide_eq_true (by omega)
                  have AFN : Hid (ArgsFine [⟨za, ⟨zp, zl⟩, zadv⟩, ⟨ga, ⟨gp, gl⟩, gadv⟩] ↔ agB ⟨za, ⟨zp, zl⟩, zadv⟩ ⟨ga, ⟨gp, gl⟩, gadv⟩ = true) := Lib.hid (by
                    rw [fine_two, agB_iff]
                    exact ⟨fun h => h.2.2, fun h => ⟨VP.out (by omega), hv, h⟩⟩)
                  generalize ArgsFine [⟨za, ⟨zp, zl⟩, zadv⟩, ⟨ga, ⟨gp, gl⟩, gadv⟩] = AF at *
                  generalize agB ⟨za, ⟨zp, zl⟩, zadv⟩ ⟨ga, ⟨gp, gl⟩, gadv⟩ = ag at *
                  clear RCV RC0 RCA h0 FN VP hv
                  go_wp2_with fail
                  rw [show j + 1 + 1 - j = 2 from by omega]
                  refine FN1.out.mono ?_
                  rintro e w2 ⟨bb, rfl, G3, BE⟩
                  have BA : bb = ag := by
                    have := BE.trans AFN.out
                    cases bb <;> cases ag <;> simp_all
                  subst BA
                  have G4 := Lib.hid (G1.out.trans G3)
                  have G5 := Lib.hid (G2.out.trans G3)
                  clear BE AFN FN1 G3 cf2
                  cases bb with
                  | true =>
                    have N : Hid (RES = orI ((rcs rgs).drop (j + 1 + 1))) := Lib.hid (by rw [E.out, E2.out, RA.out]; simp)
                    clear RA E E2
                    go_wp2_with fail
                    go_roundw
                    case rel => exact ⟨j + 1 + 1, by go_num, KC.out, G4, N, VN⟩
                    case measure => simp [intOf]; have := KC.out; omega
                  | false =>
                    have Y : Hid (RES = 16) := Lib.hid (by rw [E.out, E2.out, RA.out]; simp)
                    clear RA E E2
                    go_wp2_with fail
                    go_returns
                    exact ⟨by rw [Y.out]; rfl, G5.out⟩
            · have V : Hid (RES = 0) := Lib.hid (by rw [E.out, List.drop_eq_nil_of_le (by rw [rcs_len]; omega)]; rfl)
              clear E
              go_wp2_with fail
              go_ret
              exact ⟨by rw [V.out]; rfl, G0.out.trans GR.out⟩

end Go.Proofs.YtombnejipaoinaaGreat
