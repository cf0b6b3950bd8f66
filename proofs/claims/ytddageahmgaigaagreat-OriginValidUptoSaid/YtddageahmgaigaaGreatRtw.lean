import Derived.Test.YtddageahmgaigaaGreatRtp
import Derived.Deep.DeepCutAuto
namespace Go.Proofs.YtddageahmgaigaaGreat
open Go.RowKit

def RtM (w : World) (st : Array Value) (l0 : Lsa) (p : Value) (wx : World) : Prop := ∃ b, p = .pointer (some ⟨b, 0, none⟩) ∧ w.heap.size + 2 ≤ b ∧ wx.heap[b]? = some (.cells (lsaE l0).toArray 42 (0, 0)) ∧
  wx.heap[w.heap.size]? = some (.cells st 32 (0, 0)) ∧ wx.heap[w.heap.size + 1]? = some (.cells (lsaE lsaZ).toArray 42 (0, 0)) ∧ Below w.heap.size w wx

set_option maxHeartbeats 16000000 in
set_option maxRecDepth 100000 in
theorem router_calls (w : World) (s : Stt) (area : Int) (ifs : List IfD) (hi : IfsAt w (.slice s.ia s.iN s.ic) ifs)
    (LC : ∀ d ∈ ifs, selI area d = true → ∀ W, Below w.heap.size w W → Calls Tryz.prog 39 #[.agg (ifE d.x).toArray, .int .u32 s.rt] W (LksPost W (lksOf s.rt d)))
    (HK : ∀ d ∈ ifs, ∀ x ∈ lksOf s.rt d, plOk (plOf x)) (HN : (linksK s.rt area ifs ifs.length).length ≤ 4194304) :
    Calls Tryz.prog 14 #[.agg (sttE s).toArray, .int .u32 area] w (RtPost w s.rt (bordP ifs) (decide (0 < s.an.n)) (linksK s.rt area ifs ifs.length)) := by
  have IC := Lib.hid (fun W (hb : Below w.heap.size w W) => connects_calls W _ ifs (hi.below hb))
  have HLC := Lib.hid LC
  have HHK := Lib.hid HK
  have HHN := Lib.hid HN
  obtain ⟨ti, hti, hz0, hz1, hz2⟩ := info_parts Tryz.infoLink
  have HI := Lib.hid hti
  have HZ0 := Lib.hid hz0
  have HZ1 := Lib.hid hz1
  have HZ2 := Lib.hid hz2
  obtain ⟨ga1, gc1, e1, hlen, hc1⟩ := hi.get
  have HC1 := Lib.hid hc1
  obtain ⟨rt, ⟨cia, cin, cic⟩, ⟨cra, crn, crc⟩, now, a1, iN, c1, ⟨ara, arn, arc⟩, ⟨exa, exn, exc⟩, ⟨ana, ann, anc⟩⟩ := s
  simp only at e1 HLC HHK HHN IC
  simp only [Value.slice.injEq] at e1
  obtain ⟨rfl, rfl, rfl⟩ := e1
  clear hi LC HK HN hc1 hti hz0 hz1 hz2
  obtain ⟨bo, hbo⟩ : ∃ bo, bordP ifs = bo := ⟨_, rfl⟩
  obtain ⟨ba, hba⟩ : ∃ ba, decide (0 < ann) = ba := ⟨_, rfl⟩
  have g1 : decide (0 < ann) = ba := hba
  simp only [hbo, hba]
  rw [hbo] at IC
  obtain ⟨LL0, hLL0⟩ : ∃ LL0, linksK rt area ifs ifs.length = LL0 := ⟨_, rfl⟩
  rw [hLL0]
  have ELL := Lib.hid hLL0
  have mixed : Tryz.prog.follows .mixedOrders = true := by kernel_rfl
  have hmm := @run_makeMap Tryz.prog
  clear hbo hba hLL0
  obtain ⟨W0, hW0⟩ : ∃ W0, (w.alloc (.cells #[.int .u32 rt, .slice cia cin cic, .slice cra crn crc, .int .i64 now, .slice a1 ifs.length c1, .slice ara arn arc, .slice exa exn exc, .slice ana ann anc] 32)).alloc (.cells #[.int .i64 0, .int .u32 0, .int .i64 0, .int .u32 0, .int .i64 0, .int .i64 0, .int .i64 0, .bool false, .bool false, .slice none 0 0, .slice none 0 0, .int .i64 0, .bool false, .int .u32 0, .int .i64 0] 42) = W0 := ⟨_, rfl⟩
  have B0 : Hid (Below w.heap.size w W0) := Lib.hid (by rw [← hW0]; exact ((Below.refl _ _).alloc (Nat.le_refl _) _).alloc (by simp) _)
  have X0 : Hid (W0.heap[w.heap.size]? = some (.cells #[.int .u32 rt, .slice cia cin cic, .slice cra crn crc, .int .i64 now, .slice a1 ifs.length c1, .slice ara arn arc, .slice exa exn exc, .slice ana ann anc] 32 (0, 0))) := Lib.hid (by rw [← hW0]; exact (alloc_get _ _ _ (by simp)).trans (alloc_new _ _))
  have Z0 : Hid (W0.heap[w.heap.size + 1]? = some (.cells #[.int .i64 0, .int .u32 0, .int .i64 0, .int .u32 0, .int .i64 0, .int .i64 0, .int .i64 0, .bool false, .bool false, .slice none 0 0, .slice none 0 0, .int .i64 0, .bool false, .int .u32 0, .int .i64 0] 42 (0, 0))) := Lib.hid (by rw [← hW0]; exact blk_new2 w _ _)
  have HW0 := Lib.hid hW0
  have y0 : W0.cell? ⟨w.heap.size, 0, none⟩ = some (.int .u32 rt) := blk_cell X0.out rfl
  have y4 : W0.cell? ⟨w.heap.size, 4, none⟩ = some (.slice a1 ifs.length c1) := blk_cell X0.out rfl
  have y7 : W0.cell? ⟨w.heap.size, 7, none⟩ = some (.slice ana ann anc) := blk_cell X0.out rfl
  clear hW0
  simp only [sttE]
  go_enter Tryz.func14, Tryz.ntmps14
  go_upto_region 1 with fail
  rw [HW0.out]
  go_upto_region 2 with fail
  go_cut [6] (fun p wx => RtM w #[.int .u32 rt, .slice cia cin cic, .slice cra crn crc, .int .i64 now, .slice a1 ifs.length c1, .slice ara arn arc, .slice exa exn exc, .slice ana ann anc] (rtL rt bo ba) p wx)
  case first =>
    clear HLC HHK HHN HC1 HI HZ0 HZ1 HZ2
    have n0 : ¬ W0.heap.size = w.heap.size := by have := blk_lt X0.out; omega
    have n0' : ¬ w.heap.size = W0.heap.size := by have := blk_lt X0.out; omega
    go_region_held3 (fun W' => W'.cell? ⟨w.heap.size, 4, none⟩ = some (.slice a1 ifs.length c1) ∧ W'.cell? ⟨w.heap.size, 7, none⟩ = some (.slice ana ann anc)) (first | with_reducible exact ⟨y4, y7⟩ | with_reducible exact ⟨z4, z7⟩ | with_reducible exact z4 | with_reducible exact z7 | go_keep) (first | (go_at_call 38; (with_reducible refine (IC.out _ (by first | exact B0.out.drew | exact (B0.out.alloc B0.out.size _).drew | exact B0.out)).mono ?_); rintro e w1 ⟨rfl, B1⟩; have R1 : Hid (Below w.heap.size w w1) := Lib.hid (by first | exact B0.out.drew.trans (B1.mono B0.out.size) | exact (B0.out.alloc B0.out.size _).drew.trans (B1.mono (B0.out.alloc B0.out.size _).size)); have X1 : Hid (w1.heap[w.heap.size]? = some (.cells #[.int .u32 rt, .slice cia cin cic, .slice cra crn crc, .int .i64 now, .slice a1 ifs.length c1, .slice ara arn arc, .slice exa exn exc, .slice ana ann anc] 32 (0, 0))) := Lib.hid (by first | exact (B1.block _ (blk_lt X0.out)).trans X0.out | exact (B1.block _ (blk_lt ((alloc_get _ _ _ (blk_lt X0.out)).trans X0.out))).trans ((alloc_get _ _ _ (blk_lt X0.out)).trans X0.out)); have Z1 : Hid (w1.heap[w.heap.size + 1]? = some (.cells #[.int .i64 0, .int .u32 0, .int .i64 0, .int .u32 0, .int .i64 0, .int .i64 0, .int .i64 0, .bool false, .bool false, .slice none 0 0, .slice none 0 0, .int .i64 0, .bool false, .int .u32 0, .int .i64 0] 42 (0, 0))) := Lib.hid (by first | exact (B1.block _ (blk_lt Z0.out)).trans Z0.out | exact (B1.block _ (blk_lt ((alloc_get _ _ _ (blk_lt Z0.out)).trans Z0.out))).trans ((alloc_get _ _ _ (blk_lt Z0.out)).trans Z0.out)); have HB1 := Lib.hid B1; (try (have Y1 : w1.heap[W0.heap.size]? = some (.cells #[.int .i64 0, .int .u32 0, .int .i64 0, .int .u32 0, .int .i64 0, .int .i64 0, .int .i64 0, .bool false, .bool false, .slice none 0 0, .slice none 0 0, .int .i64 0, .bool false, .int .u32 0, .int .i64 0] 42 (0, 0)) := (B1.block _ (show W0.heap.size < (W0.alloc (.cells #[.int .i64 0, .int .u32 0, .int .i64 0, .int .u32 0, .int .i64 0, .int .i64 0, .int .i64 0, .bool false, .bool false, .slice none 0 0, .slice none 0 0, .int .i64 0, .bool false, .int .u32 0, .int .i64 0] 42)).heap.size by simp)).trans (alloc_new W0 _); have HY1 := Lib.hid Y1; obtain ⟨⟨⟨v0, v1, v2, v3, v4⟩, ⟨v5, v6, v7, v8, v9⟩, ⟨v10, v11, v12, v13, v14⟩⟩, hfz⟩ := blk15 Y1; have zf0 := hfz 0; have zf1 := hfz 1; have zf2 := hfz 2; have zf3 := hfz 3; have zf4 := hfz 4; have zf5 := hfz 5; have zf6 := hfz 6; have zf7 := hfz 7; have zf8 := hfz 8; have zf9 := hfz 9; have zf10 := hfz 10; have zf11 := hfz 11; have zf12 := hfz 12; have zf13 := hfz 13; have zf14 := hfz 14; clear hfz Y1)); have z7 : w1.cell? ⟨w.heap.size, 7, none⟩ = some (.slice ana ann anc) := blk_cell X1.out rfl; have z4 : w1.cell? ⟨w.heap.size, 4, none⟩ = some (.slice a1 ifs.length c1) := blk_cell X1.out rfl; clear B1))
    · obtain ⟨W2, hW2⟩ : ∃ W2, w1.alloc (.cells #[.int .i64 1, .int .u32 rt, .int .i64 0, .int .u32 rt, .int .i64 0, .int .i64 0, .int .i64 0, .bool bo, .bool ba, .slice none 0 0, .slice none 0 0, .int .i64 0, .bool false, .int .u32 0, .int .i64 0] 42) = W2 := ⟨_, rfl⟩
      have MID : Hid (RtM w #[.int .u32 rt, .slice cia cin cic, .slice cra crn crc, .int .i64 now, .slice a1 ifs.length c1, .slice ara arn arc, .slice exa exn exc, .slice ana ann anc] (rtL rt bo ba) (.pointer (some ⟨w1.heap.size, 0, none⟩)) W2) := Lib.hid ⟨_, rfl, by have := blk_lt Z1.out; omega, by rw [← hW2]; exact alloc_new _ _, by rw [← hW2]; exact (alloc_get _ _ _ (blk_lt X1.out)).trans X1.out, by rw [← hW2]; exact (alloc_get _ _ _ (blk_lt Z1.out)).trans Z1.out, by rw [← hW2]; exact R1.out.alloc R1.out.size _⟩
      have HW2 := Lib.hid hW2
      clear hW2 z7 z4 X1 Z1 R1
      go_wp2_with fail
      go_meet
      rw [HW2.out]
      exact MID.out
    · obtain ⟨W2, hW2⟩ : ∃ W2, setLsa w1 W0.heap.size ⟨1, rt, 0, rt, 0, 0, 0, bo, ba, none, 0, 0, none, 0, 0, 0, false, 0, 0⟩ = W2 := ⟨_, rfl⟩
      have gS : w1.grownBy W2 (some W0.heap.size) := by rw [← hW2]; exact setLsa_grown _ _ _
      have sz0 : w.heap.size + 2 ≤ W0.heap.size := by have := blk_lt Z0.out; omega
      have MID : Hid (RtM w #[.int .u32 rt, .slice cia cin cic, .slice cra crn crc, .int .i64 now, .slice a1 ifs.length c1, .slice ara arn arc, .slice exa exn exc, .slice ana ann anc] (rtL rt bo ba) (.pointer (some ⟨W0.heap.size, 0, none⟩)) W2) := Lib.hid ⟨_, rfl, sz0, by rw [← hW2]; exact setLsa_blk HY1.out _, (gS.block _ (blk_lt X1.out) (by simp; omega)).trans X1.out, (gS.block _ (blk_lt Z1.out) (by simp; omega)).trans Z1.out, R1.out.grown gS R1.out.size (fun j hj => by cases hj; omega)⟩
      unfold setLsa at hW2
      simp only at hW2
      have HW2 := Lib.hid hW2
      clear hW2 z7 z4 X1 Z1 R1 gS sz0 HY1 zf0 zf1 zf2 zf3 zf4 zf5 zf6 zf7 zf8 zf9 zf10 zf11 zf12 zf13 zf14 v0 v1 v2 v3 v4 v5 v6 v7 v8 v9 v10 v11 v12 v13 v14
      go_wp2_with fail
      go_meet
      rw [HW2.out]
      exact MID.out
  case rest =>
    clear IC B0 X0 Z0 HW0 y0 y4 y7 g1
    obtain ⟨b, rfl, hb2, HB, HX, HZ, BW⟩ := hcut
    obtain ⟨W4, hW4⟩ : ∃ W4, wc.alloc (.map #[] 0) = W4 := ⟨_, rfl⟩
    have B4 : Below wc.heap.size wc W4 := by rw [← hW4]; exact (Below.refl _ _).alloc (Nat.le_refl _) _
    have s4 : W4.heap.size = wc.heap.size + 1 := by rw [← hW4]; simp
    have HB4 := Lib.hid ((B4.block _ (blk_lt HB)).trans HB)
    have HX4 := Lib.hid ((B4.block _ (blk_lt HX)).trans HX)
    have HZ4 := Lib.hid ((B4.block _ (blk_lt HZ)).trans HZ)
    have BW4 := Lib.hid (BW.trans (B4.mono BW.size))
    have S4 := Lib.hid s4
    have LB := Lib.hid (blk_lt HB)
    have LZ := Lib.hid (blk_lt HZ)
    have HB2 := Lib.hid hb2
    have ST : Hid (RtA W4 wc.heap.size [] W4) := Lib.hid ⟨⟨fun _ => none, 0, Nat.le_refl _, by rw [← hW4]; exact MapF.made wc, CostsF.nil⟩, rfl, rfl, rfl, Nat.le_refl _, fun _ _ _ => rfl⟩
    have y4 : W4.cell? ⟨w.heap.size, 4, none⟩ = some (.slice a1 ifs.length c1) := blk_cell HX4.out rfl
    have HW4 := Lib.hid hW4
    clear hW4 B4 s4 HB HX HZ BW hb2
    obtain ⟨mb, hmb⟩ : ∃ mb, wc.heap.size = mb := ⟨_, rfl⟩
    rw [hmb] at ST S4 LB LZ
    have HMB := Lib.hid hmb
    go_upto_region 4 with fail
    rw [HW4.out]
    clear hmb HW4 HMB
    go_wp2_with fail
    clear y4 hmm
    go_loopw [35, 13, 14] (fun ix v13 v14 wr => ∃ k : Nat, ix = .int .i64 k ∧ k ≤ ifs.length ∧ Hid (RtA W4 mb (linksK rt area ifs k) wr)) (fun ix _ _ _ => ifs.length - (intOf ix).toNat)
    case atStart => exact ⟨0, rfl, Nat.zero_le _, ST⟩
    case round =>
      clear ST
      obtain ⟨k, rfl, hk, R⟩ := hrel
      by_cases c : k < ifs.length
      · obtain ⟨b1, o1, rfl, hb1, hcc1⟩ := HC1.out (by omega)
        obtain ⟨WO, eWO⟩ : ∃ x, x = wr := ⟨_, rfl⟩
        subst eWO
        have BWO : Hid (Below w.heap.size w WO) := Lib.hid (BW4.out.grown R.out.kep BW4.out.size (fun j hj => by cases hj; have := LZ.out; omega))
        obtain ⟨⟨d0, d1, d2, d3, d4⟩, ⟨d5, d6, d7, d8, d9⟩, ⟨d10, d11, d12, d13, d14⟩⟩ := (hcc1 k c).below BWO.out hb1
        have SK := Lib.hid (fun h => linksK_skip (rt := rt) (area := area) c h)
        have TK := Lib.hid (fun h => linksK_take (rt := rt) (area := area) c h)
        have LN := Lib.hid (fun h => Nat.le_trans (linksK_len (rt := rt) (area := area) c h) HHN.out)
        have LCk := Lib.hid (fun (h : selI area (ifs[k]'c) = true) => HLC.out (ifs[k]'c) (List.getElem_mem c) h)
        have HKk := Lib.hid (HHK.out ifs[k] (List.getElem_mem c))
        have KC := Lib.hid c
        have i0 : (0 : Int) ≤ (k : Int) := by omega
        have i1 : (k : Int) < (ifs.length : Int) := by omega
        have s3 : ((k : Int)).toNat = k := by omega
        clear hcc1
        generalize linksK rt area ifs k = LK at *
        generalize ifs[k] = d at *
        clear c
        obtain ⟨⟨kind, pa, pl, ad, iarea, cost, prio, hel, dead, up, dr, bdr, el, nh, na, nn, nc⟩, nb⟩ := d
        simp only at d0 d1 d2 d3 d4 d5 d6 d7 d8 d9 d10 d11 d12 d13 d14
        simp only [selI] at SK TK LN LCk
        go_upto_region 7 with fail
        generalize hW5 : WO.alloc _ = W5
        have B5 : Below WO.heap.size WO W5 := by rw [← hW5]; exact (Below.refl _ _).alloc (Nat.le_refl _) _
        have b5 : Hid (W5.heap[WO.heap.size]? = some (.cells #[.int .i64 kind, .int .u32 pa, .int .i64 pl, .int .u32 ad, .int .u32 iarea, .int .i64 cost, .int .i64 prio, .int .i64 hel, .int .i64 dead, .bool up, .int .u32 dr, .int .u32 bdr, .int .i64 el, .int .i64 nh, .slice na nn nc] 69 (0, 0))) := Lib.hid (by rw [← hW5]; exact alloc_new _ _)
        have R5 := Lib.hid (R.out.grow B5)
        have BW5 := Lib.hid (BWO.out.trans (B5.mono BWO.out.size))
        have x4 : W5.cell? ⟨WO.heap.size, 4, none⟩ = some (.int .u32 iarea) := blk_cell b5.out rfl
        have x9 : W5.cell? ⟨WO.heap.size, 9, none⟩ = some (.bool up) := blk_cell b5.out rfl
        clear hW5 B5 d0 d1 d2 d3 d4 d5 d6 d7 d8 d9 d10 d11 d12 d13 d14 R
        cases up with
        | false =>
          have NX : Hid (RtA W4 mb (linksK rt area ifs (k + 1)) W5) := Lib.hid (by rw [SK.out rfl]; exact R5.out)
          clear SK TK LN LCk HKk R5 b5
          go_wp2_with fail
          go_roundw
          case rel => exact ⟨k + 1, by go_num, KC.out, NX⟩
          case measure => simp [intOf]; have := KC.out; omega
        | true =>
        by_cases q : iarea = area
        case neg =>
          have q' : (iarea == area) = false := by simpa using q
          have NX : Hid (RtA W4 mb (linksK rt area ifs (k + 1)) W5) := Lib.hid (by rw [SK.out (by simp [q])]; exact R5.out)
          clear SK TK LN LCk HKk R5 b5 q
          go_wp2_with fail
          go_roundw
          case rel => exact ⟨k + 1, by go_num, KC.out, NX⟩
          case measure => simp [intOf]; have := KC.out; omega
        case pos =>
          subst q
          have TK1 := Lib.hid (TK.out (by simp))
          have LN1 := Lib.hid (LN.out (by simp))
          have LC5 := Lib.hid (LCk.out (by simp) W5 BW5.out)
          clear SK TK LN LCk
          generalize lksOf rt _ = lks at *
          simp only [ifE] at LC5
          go_upto_region 8 with fail
          clear x4 x9
          obtain ⟨⟨⟨x0, x1, x2, x3, x4⟩, ⟨x5, x6, x7, x8, x9⟩, ⟨x10, x11, x12, x13, x14⟩⟩, -⟩ := blk15 b5.out
          go_wp2_with fail
          refine LC5.out.mono ?_
          rintro e w6 ⟨v6, rfl, LV, FV, B6⟩
          obtain ⟨a6, c6, hv6, hc6⟩ := LV.get
          subst hv6
          have HC6 := Lib.hid hc6
          have HFV := Lib.hid FV
          have R6 := Lib.hid (R5.out.grow B6)
          have M6 : Hid (mb < W5.heap.size) := Lib.hid (by have := R5.out.kep.size; have := S4.out; omega)
          have ST2 : Hid (RtA W4 mb (LK ++ lks.take 0) w6 ∧ w6.grownBy w6 (some mb)) := Lib.hid ⟨by rw [List.take_zero, List.append_nil]; exact R6.out, rfl, rfl, rfl, Nat.le_refl _, fun _ _ _ => rfl⟩
          clear hc6 LV FV B6 R6 R5 LC5 x0 x1 x2 x3 x4 x5 x6 x7 x8 x9 x10 x11 x12 x13 x14 b5
          go_wp2_with fail
          go_loopw [53, 13, 14] (fun ix v13 v14 wq => ∃ i : Nat, ix = .int .i64 i ∧ i ≤ lks.length ∧ Hid (RtA W4 mb (LK ++ lks.take i) wq ∧ w6.grownBy wq (some mb))) (fun ix _ _ _ => lks.length - (intOf ix).toNat)
          case atStart => exact ⟨0, rfl, Nat.zero_le _, ST2⟩
          case round =>
            clear ST2
            obtain ⟨i, rfl, hi, R⟩ := hrel
            by_cases c2 : i < lks.length
            · obtain ⟨b6, o6, rfl, hb6, hcc6⟩ := HC6.out (by omega)
              obtain ⟨WI, eWI⟩ : ∃ x, x = wr := ⟨_, rfl⟩
              subst eWI
              have NE6 : some b6 ≠ some mb := fun h => by have h1 := HFV.out b6 o6 _ _ rfl; have := M6.out; cases h; omega
              have up6 : ∀ {o : Nat} {u : Value}, w6.cell? ⟨b6, o, none⟩ = some u → WI.cell? ⟨b6, o, none⟩ = some u := fun {o u} hh => (World.cell?_of_block (w := w6) (w' := WI) (a := ⟨b6, o, none⟩) (R.out.2.block b6 hb6 NE6)).trans hh
              obtain ⟨d0, d1, d2, d3⟩ := hcc6 i c2
              replace d0 := up6 d0
              replace d1 := up6 d1
              replace d2 := up6 d2
              replace d3 := up6 d3
              have HP := Lib.hid (HKk.out lks[i] (List.getElem_mem c2))
              have TI : lks.take (i + 1) = lks.take i ++ [lks[i]] := List.take_succ_eq_append_getElem c2
              have HTI := Lib.hid TI
              have LI : Hid ((LK ++ lks.take i).length ≤ 4194304) := Lib.hid (by have := LN1.out; rw [List.length_append, List.length_take]; omega)
              have IC2 := Lib.hid c2
              have j0 : (0 : Int) ≤ (i : Int) := by omega
              have j1 : (i : Int) < (lks.length : Int) := by omega
              have j3 : ((i : Int)).toNat = i := by omega
              have jl : lks.length ≤ 4194304 := by have := LN1.out; omega
              clear hcc6 up6 NE6 TI
              generalize lks[i] = x at *
              clear c2
              obtain ⟨xk, xi, xd, xc⟩ := x
              simp only [plOf] at HP
              simp only at d0 d1 d2 d3
              go_upto_region 11 with fail
              generalize hW7 : WI.alloc _ = W7
              have B7 : Below WI.heap.size WI W7 := by rw [← hW7]; exact (Below.refl _ _).alloc (Nat.le_refl _) _
              have b7 : W7.heap[WI.heap.size]? = some (.cells #[.int .i64 xk, .int .u32 xi, .int .u32 xd, .int .i64 xc] 82 (0, 0)) := by rw [← hW7]; exact alloc_new _ _
              have z0 := blk_cell (i := 0) b7 rfl
              have z1 := blk_cell (i := 1) b7 rfl
              have z2 := blk_cell (i := 2) b7 rfl
              have HB7 := Lib.hid b7
              have HBL7 := Lib.hid B7
              clear hW7 b7 B7 d0 d1 d2 d3
              go_upto_region 12 with fail
              generalize hW8 : W7.alloc _ = W8
              have B8 : Below W7.heap.size W7 W8 := by rw [← hW8]; exact (Below.refl _ _).alloc (Nat.le_refl _) _
              have b8 : W8.heap[W7.heap.size]? = some (.cells #[.int .i64 xk, .int .u32 xi, .int .u32 xd] 88 (0, 0)) := by rw [← hW8]; exact alloc_new _ _
              have b78 := (B8.block _ (blk_lt HB7.out)).trans HB7.out
              have B78 := HBL7.out.trans (B8.mono HBL7.out.size)
              have p0 := blk_cell (i := 0) b8 rfl
              have p1 := blk_cell (i := 1) b8 rfl
              have p2 := blk_cell (i := 2) b8 rfl
              have q3 : W8.cell? ⟨WI.heap.size, 3, none⟩ = some (.int .i64 xc) := blk_cell b78 rfl
              obtain ⟨f, n, hn, M, C⟩ := (R.out.1.grow B78).mp
              have M8 := Lib.hid M
              have G8 := Lib.hid (grown_below R.out.2 B78)
              have K8 := Lib.hid ((R.out.1.grow B78).kep)
              have HN8 : Hid (n < maxLen) := Lib.hid (by have := LI.out; unfold maxLen; omega)
              have PUT : Hid ((∀ c, f ⟨xk, xi, xd⟩ = some c → xc < c) → ∀ w9, PMap w9 mb (n + 1) (upd f ⟨xk, xi, xd⟩ xc) → W8.grownBy w9 (some mb) → RtA W4 mb (LK ++ lks.take (i + 1)) w9 ∧ w6.grownBy w9 (some mb)) := Lib.hid (fun h w9 m9 g9 => by
                refine ⟨⟨⟨_, _, ?_, m9, ?_⟩, grown_grown K8.out g9⟩, grown_grown G8.out g9⟩
                · rw [HTI.out, ← List.append_assoc, List.length_append, List.length_singleton]; omega
                · rw [HTI.out, ← List.append_assoc]; exact C.put ⟨xk, xi, xd, xc⟩ h)
              have KEEP : Hid (∀ c, f ⟨xk, xi, xd⟩ = some c → c ≤ xc → RtA W4 mb (LK ++ lks.take (i + 1)) W8 ∧ w6.grownBy W8 (some mb)) := Lib.hid (fun c h1 h2 => by
                refine ⟨⟨⟨f, n, ?_, M8.out, ?_⟩, K8.out⟩, G8.out⟩
                · rw [HTI.out, ← List.append_assoc, List.length_append, List.length_singleton]; omega
                · rw [HTI.out, ← List.append_assoc]; exact C.keep ⟨xk, xi, xd, xc⟩ c h1 h2)
              clear hW8 b8 B8 b78 B78 M C hn R HB7 HBL7 z0 z1 z2
              cases hf : f ⟨xk, xi, xd⟩ with
              | none =>
                have HF := Lib.hid hf
                have PU := Lib.hid (PUT.out (by rw [hf]; intro c h; cases h))
                clear PUT KEEP hf
                go_upto_region 13 with (at_lookup; refine wpList_look_none _ rfl _ _ 85 rfl 3 Tryz.plKey Tryz.underlying85 (Tryz.zeroInt _) mb n f rfl M8.out ⟨xk, xi, xd⟩ rfl HP.out HF.out ?_)
                go_wp2_with (at_mapUpdate; refine wpList_mput _ rfl _ _ _ 85 rfl 3 Tryz.plKey Tryz.underlying85 mb n f rfl M8.out HN8.out ⟨xk, xi, xd⟩ rfl HP.out xc rfl ?_; intro w9 M9 G9; have NX := Lib.hid (PU.out w9 M9 G9); clear M9 G9)
                go_roundw
                case rel => exact ⟨i + 1, by go_num, IC2.out, NX⟩
                case measure => simp [intOf]; have := IC2.out; omega
              | some old =>
                have HF := Lib.hid hf
                by_cases lt : xc < old
                · have PU := Lib.hid (PUT.out (by rw [hf]; intro c h; cases h; exact lt))
                  have gl : decide (xc < old) = true := decide_eq_true lt
                  clear PUT KEEP hf lt
                  go_upto_region 13 with (at_lookup; refine wpList_look_some _ rfl _ _ 85 rfl 3 Tryz.plKey Tryz.underlying85 (Tryz.zeroInt _) mb n f rfl M8.out ⟨xk, xi, xd⟩ rfl HP.out old HF.out ?_; simp only [costV])
                  go_wp2_with (at_mapUpdate; refine wpList_mput _ rfl _ _ _ 85 rfl 3 Tryz.plKey Tryz.underlying85 mb n f rfl M8.out HN8.out ⟨xk, xi, xd⟩ rfl HP.out xc rfl ?_; intro w9 M9 G9; have NX := Lib.hid (PU.out w9 M9 G9); clear M9 G9)
                  go_roundw
                  case rel => exact ⟨i + 1, by go_num, IC2.out, NX⟩
                  case measure => simp [intOf]; have := IC2.out; omega
                · have NX := Lib.hid (KEEP.out old hf (by omega))
                  have gl : decide (xc < old) = false := decide_eq_false lt
                  clear PUT KEEP hf lt
                  go_upto_region 13 with (at_lookup; refine wpList_look_some _ rfl _ _ 85 rfl 3 Tryz.plKey Tryz.underlying85 (Tryz.zeroInt _) mb n f rfl M8.out ⟨xk, xi, xd⟩ rfl HP.out old HF.out ?_; simp only [costV])
                  go_wp2_with fail
                  go_roundw
                  case rel => exact ⟨i + 1, by go_num, IC2.out, NX⟩
                  case measure => simp [intOf]; have := IC2.out; omega
            · obtain rfl : i = lks.length := by omega
              have NX : Hid (RtA W4 mb (linksK rt iarea ifs (k + 1)) wr) := Lib.hid (by have h := R.out.1; rw [List.take_length] at h; rw [TK1.out]; exact h)
              clear R
              go_wp2_with fail
              go_roundw
              case rel => exact ⟨k + 1, by go_num, KC.out, NX⟩
              case measure => simp [intOf]; have := KC.out; omega
      · obtain rfl : k = ifs.length := by omega
        rw [ELL.out] at R
        obtain ⟨f, n, hn, M, C⟩ := R.out.mp
        have HM := Lib.hid M
        have HC := Lib.hid C
        have KEP := Lib.hid R.out.kep
        have HNN : Hid (n ≤ 4194304) := Lib.hid (by have := HHN.out; rw [ELL.out] at this; omega)
        have HKL : Hid (∀ x ∈ LL0, plOk (plOf x)) := Lib.hid (fun x hx => by
          rw [← ELL.out] at hx
          unfold linksK at hx
          obtain ⟨d, h1, h2⟩ := List.mem_flatMap.1 hx
          have h3 := (List.mem_filter.1 h1).1
          rw [List.take_length] at h3
          exact HHK.out d h3 x h2)
        have Z5 := Lib.hid ((KEP.out.block _ (blk_lt HZ4.out) (by have := LZ.out; simp; omega)).trans HZ4.out)
        have B5 := Lib.hid ((KEP.out.block _ (blk_lt HB4.out) (by have := LB.out; simp; omega)).trans HB4.out)
        have BW5 : Hid (Below w.heap.size w wr) := Lib.hid (BW4.out.grown KEP.out BW4.out.size (fun j hj => by cases hj; have := LZ.out; omega))
        have SZ5 : Hid (mb < wr.heap.size) := Lib.hid (by have := KEP.out.size; have := S4.out; omega)
        obtain ⟨WP, eWP⟩ : ∃ x, x = wr := ⟨_, rfl⟩
        subst eWP
        clear R M C hn HLC HHK HHN HC1 KEP
        go_wp2_with (at_range; refine wpList_rangeF _ rfl _ 85 rfl 3 Tryz.plKey Tryz.underlying85 mb n f rfl HM.out ?_; intro w0 cnt0 hcnt0 hrg0 hg0 hs0)
        have Bg : Below WP.heap.size WP w0 := ⟨hg0.os, hg0.tape, hg0.output, hg0.size, fun i hi => hg0.block i hi (by simp)⟩
        have O0 : Hid (RtO w (WP.heap.size + 1) b mb WP.heap.size n (rtL rt bo ba) f (fun x => (f x).isSome) cnt0 [] w0) := Lib.hid (by
          refine ⟨hrg0, ⟨none, 0, ?_, World.ownsRow_nil _ _ _ _⟩, fun x => ⟨(fun h => by cases h), ?_⟩, by simp, by simpa using hcnt0, (Bg.block _ (blk_lt Z5.out)).trans Z5.out, BW5.out.trans (Bg.mono BW5.out.size), by rw [hs0]; exact Nat.le_refl _⟩
          · exact (Bg.block _ (blk_lt B5.out)).trans B5.out
          · rintro ⟨p, c, _, h1, h2, _⟩
            rw [h2] at h1; cases h1)
        have LBP := Lib.hid (blk_lt B5.out)
        have LZP := Lib.hid (blk_lt Z5.out)
        clear hrg0 hg0 hs0 hcnt0 Bg Z5 B5 HM BW5
        go_frame
        generalize WP.heap.size = rb at *
        go_loopw [16] (fun v wq => ∃ (left : Pl → Bool) (cnt : Nat) (out : List Lnk), Hid (RtO w (rb + 1) b mb rb n (rtL rt bo ba) f left cnt out wq)) (fun _ wq => wq.rangeLeft mb rb)
        case atStart => exact ⟨_, _, _, O0⟩
        case round =>
          clear O0
          obtain ⟨left, cnt, out, Q⟩ := hrel
          obtain ⟨la, lc, hbk, hown⟩ := Q.out.lb
          have HBK := Lib.hid hbk
          have HOWN := Lib.hid hown
          have LEN : Hid (out.length ≤ 4194304) := Lib.hid (by have := Q.out.len; have := HNN.out; omega)
          clear hbk hown
          go_wp2_with (at_next; refine wpList_nextF _ rfl _ rfl Tryz.plKey mb rb n f left cnt rfl Q.out.rng ?_ ?_)
          · intro hl0
            have SC := Lib.hid (sort_lnks (rb + 1) wr (.slice la out.length lc) out HOWN.out (by have := LEN.out; omega))
            have ALL := Lib.hid (fun (out' : List Lnk) (P : out'.Perm out) U => Q.out.all (out' := out') hl0 HC.out HKL.out P U)
            have bq := HBK.out
            simp only [lsaE, lsaLk, rtL] at bq
            have v9 := blk_cell (i := 9) bq rfl
            have HBQ := Lib.hid bq
            have HZQ := Lib.hid Q.out.z1
            have HBL := Lib.hid Q.out.bel
            have HSB := Lib.hid Q.out.hB
            clear hl0 Q bq HBK HOWN
            go_wp2_with fail
            refine SC.out.mono ?_
            rintro e w8 ⟨rfl, out', P, U, OWN8, B8, -⟩
            have HA := Lib.hid (ALL.out out' P U)
            have PL : Hid (out.length = out'.length) := Lib.hid P.length_eq.symm
            have bq8 := (B8.block b (by have := LBP.out; omega)).trans HBQ.out
            have zq8 : w8.heap[w.heap.size + 1]? = some (.cells #[.int .i64 0, .int .u32 0, .int .i64 0, .int .u32 0, .int .i64 0, .int .i64 0, .int .i64 0, .bool false, .bool false, .slice none 0 0, .slice none 0 0, .int .i64 0, .bool false, .int .u32 0, .int .i64 0] 42 (0, 0)) := (B8.block (w.heap.size + 1) (by have := LZP.out; omega)).trans HZQ.out
            have HZ8 := Lib.hid zq8
            have BL8 := Lib.hid (HBL.out.trans (B8.mono (by have := LZP.out; omega)))
            have AT8 := Lib.hid OWN8.at
            have FR8 : Hid (Fr (rb + 1) (.slice la out.length lc)) := Lib.hid (Fr.own OWN8)
            have NB8 : ¬ b = w.heap.size + 1 := by have := HB2.out; omega
            have BS1 : Hid (w.heap.size + 1 < rb + 1) := Lib.hid (by have := LZP.out; omega)
            clear P U OWN8 B8 zq8 SC ALL HBQ HZQ HBL HSB v9
            obtain DD := blk15 bq8
            clear bq8
            obtain ⟨W', hW'⟩ : ∃ W', setLsa w8 (w.heap.size + 1) ⟨1, rt, 0, rt, 0, 0, 0, bo, ba, la, out.length, lc, none, 0, 0, 0, false, 0, 0⟩ = W' := ⟨_, rfl⟩
            have bk' : W'.heap[w.heap.size + 1]? = some (.cells #[.int .i64 1, .int .u32 rt, .int .i64 0, .int .u32 rt, .int .i64 0, .int .i64 0, .int .i64 0, .bool bo, .bool ba, .slice la out.length lc, .slice none 0 0, .int .i64 0, .bool false, .int .u32 0, .int .i64 0] 42 (0, 0)) := by rw [← hW']; exact setLsa_blk HZ8.out _
            have BW' : Below w.heap.size w W' := by rw [← hW']; exact setLsa_below BL8.out (Nat.le_add_right _ _) _
            have BN : w8.grownBy W' (some (w.heap.size + 1)) := by rw [← hW']; exact setLsa_grown _ _ _
            have AT' : LnksAt W' (.slice la out.length lc) out' := AT8.out.far FR8.out BS1.out BN
            have FIN : Hid (RtPost w rt bo ba LL0 (.returned (.agg #[.int .i64 1, .int .u32 rt, .int .i64 0, .int .u32 rt, .int .i64 0, .int .i64 0, .int .i64 0, .bool bo, .bool ba, .slice la out.length lc, .slice none 0 0, .int .i64 0, .bool false, .int .u32 0, .int .i64 0])) W') := Lib.hid ⟨la, lc, out', by rw [← PL.out]; rfl, by rw [← PL.out]; exact AT', HA.out, BW'⟩
            unfold setLsa at hW'
            simp only at hW'
            have HW' := Lib.hid hW'
            obtain ⟨⟨⟨z0, z1, z2, z3, z4⟩, ⟨z5, z6, z7, z8, z9⟩, ⟨z10, z11, z12, z13, z14⟩⟩, hfz⟩ := blk15 HZ8.out
            have zf0 := hfz 0
            have zf1 := hfz 1
            have zf2 := hfz 2
            have zf3 := hfz 3
            have zf4 := hfz 4
            have zf5 := hfz 5
            have zf6 := hfz 6
            have zf7 := hfz 7
            have zf8 := hfz 8
            have zf9 := hfz 9
            have zf10 := hfz 10
            have zf11 := hfz 11
            have zf12 := hfz 12
            have zf13 := hfz 13
            have zf14 := hfz 14
            obtain ⟨⟨⟨g0, g1, g2, g3, g4⟩, ⟨g5, g6, g7, g8, g9⟩, ⟨g10, g11, g12, g13, g14⟩⟩, -⟩ := blk15 bk'
            have G := Lib.hid (And.intro g0 (And.intro g1 (And.intro g2 (And.intro g3 (And.intro g4 (And.intro g5 (And.intro g6 (And.intro g7 (And.intro g8 (And.intro g9 (And.intro g10 (And.intro g11 (And.intro g12 (And.intro g13 g14))))))))))))))
            clear hW' bk' BW' BN hfz g0 g1 g2 g3 g4 g5 g6 g7 g8 g9 g10 g11 g12 g13 g14 AT'
            go_wp2_with fail
            rw [HW'.out]
            obtain ⟨g0, g1, g2, g3, g4, g5, g6, g7, g8, g9, g10, g11, g12, g13, g14⟩ := G.out
            exact bodyPost_ret (v := .agg #[.int .i64 1, .int .u32 rt, .int .i64 0, .int .u32 rt, .int .i64 0, .int .i64 0, .int .i64 0, .bool bo, .bool ba, .slice la out.length lc, .slice none 0 0, .int .i64 0, .bool false, .int .u32 0, .int .i64 0]) (by simp [results, Tryz.results14, go_sem, g0, g1, g2, g3, g4, g5, g6, g7, g8, g9, g10, g11, g12, g13, g14]) rfl FIN.out
          · intro p co w1 cnt1 hok1 hl1 hf1 hrg1 hlt hg1 hs1 hen
            have HRB : Hid (w.heap.size + 2 ≤ rb) := Lib.hid (by have := LBP.out; have := HB2.out; omega)
            have hbr : b ≠ rb := by have := LBP.out; omega
            have hbm : b ≠ mb := by have := LB.out; omega
            have hbk1 := (hg1.block _ (blk_lt HBK.out) (by simpa using hbr)).trans HBK.out
            have QL := Lib.hid Q.out.rng.left_eq
            have LT := Lib.hid hlt
            obtain ⟨pk, pi, pd⟩ := p
            obtain ⟨WB, hWB⟩ : ∃ WB, w1.alloc (.cells #[.int .i64 pk, .int .u32 pi, .int .u32 pd] 88) = WB := ⟨_, rfl⟩
            have BB : Below w1.heap.size w1 WB := by rw [← hWB]; exact (Below.refl _ _).alloc (Nat.le_refl _) _
            have bp : WB.heap[w1.heap.size]? = some (.cells #[.int .i64 pk, .int .u32 pi, .int .u32 pd] 88 (0, 0)) := by rw [← hWB]; exact alloc_new _ _
            have z0 := blk_cell (i := 0) bp rfl
            have z1 := blk_cell (i := 1) bp rfl
            have z2 := blk_cell (i := 2) bp rfl
            have bqB := (BB.block _ (blk_lt hbk1)).trans hbk1
            simp only [lsaE, lsaLk, rtL] at bqB
            have v9 := blk_cell (i := 9) bqB rfl
            obtain ⟨W3, hW3⟩ : ∃ W3, WB.alloc (.cells #[.int .i64 pk, .int .u32 pi, .int .u32 pd, .int .i64 co] 82) = W3 := ⟨_, rfl⟩
            have B3 : Below WB.heap.size WB W3 := by rw [← hW3]; exact (Below.refl _ _).alloc (Nat.le_refl _) _
            have B13 := BB.trans (B3.mono BB.size)
            have OWN : Hid (LnksOwn (rb + 1) W3 (.slice la out.length lc) out) := Lib.hid (by
              have h : LnksOwn (rb + 1) w1 (.slice la out.length lc) out := World.ownsRow.kept HOWN.out hg1 (.inr (fun e => by have := (World.ownsRow.lt HOWN.out _ e).1; omega))
              exact h.below B13)
            have BK : Hid (W3.heap[WB.heap.size]? = some (.cells #[.int .i64 pk, .int .u32 pi, .int .u32 pd, .int .i64 co] 82 (0, 0))) := Lib.hid (by rw [← hW3]; exact alloc_new _ _)
            have ONE : Hid (∀ u ∈ ([.int .i64 pk, .int .u32 pi, .int .u32 pd, .int .i64 co] : List Value), u.oneCell' = true) := Lib.hid (by intro u hu; simp at hu; rcases hu with rfl | rfl | rfl | rfl <;> rfl)
            have K1 : Hid (out.length + 1 ≤ maxLen) := Lib.hid (by have := LEN.out; unfold maxLen; omega)
            have K2 : Hid ((out.length + 1) * 24 ≤ 140737488355328) := Lib.hid (by have := LEN.out; omega)
            have BS : Hid (rb + 1 ≤ W3.heap.size) := Lib.hid (by have h1 := Q.out.hB; have h2 := hg1.size; have h3 := B13.size; omega)
            have bq3 := (B3.block _ (blk_lt bqB)).trans bqB
            have HBQ3 := Lib.hid bq3
            have STEP := Lib.hid (fun a' c' w4 w5 own' hg4 h5 => Q.out.step (w4 := w4) (w5 := w5) (a' := a') (c' := c') HB2.out (by have := LBP.out; omega) (by have := SZ5.out; omega) (Nat.lt_succ_self rb) hbm hbr HRB.out hok1 hl1 hf1 hrg1 hlt hg1 B13 HBK.out HOWN.out own' hg4 h5)
            have HWB := Lib.hid hWB
            have HW3 := Lib.hid hW3
            simp only [costV, plV] at hen ⊢
            clear BB bp bqB hWB hW3 B3 B13 Q hok1 hl1 hf1 hrg1 hlt hg1 hs1 HBK HOWN hbk1 bq3
            go_upto_region 20 with fail
            rw [HWB.out]
            go_wp2_with (at_builtin; rw [HW3.out]; refine wpList_append_one rfl (.tmp 92) (.tmp 101) 38 rfl (rb + 1) 82 ti (.agg #[.int .i64 0, .int .u32 0, .int .u32 0, .int .i64 0]) 4 24 Tryz.underlying38 ?g1 ?g2 ?g3 ?g4 ?g5 ?g6 (.slice la out.length lc) out.length _ ?g7 OWN.out WB.heap.size [.int .i64 pk, .int .u32 pi, .int .u32 pd, .int .i64 co] 82 ?g8 BK.out ?g9 ONE.out K1.out K2.out BS.out ?_; (case g1 => exact HI.out); (case g2 => exact HZ0.out); (case g3 => exact HZ1.out); (case g4 => exact HZ2.out); (case g5 => exact rfl); (case g6 => decide); (case g7 => exact rfl); (case g8 => exact rfl); (case g9 => exact rfl); intro v' w4 own' hg4 dd; have own2 : w4.ownsRow (rb + 1) 82 4 v' (out.length + 1) ((out.map lnkE).flatten ++ lnkE (mkL ⟨pk, pi, pd⟩ co)) := own'; obtain ⟨a', c', hv'⟩ := own_slice own2; subst hv'; have OWN4 := Lib.hid own2; have GG4 := Lib.hid hg4; have bq4 := (hg4.block _ (blk_lt HBQ3.out) (fun e => by have := (World.ownsRow.lt OWN.out _ e.symm).1; have := LBP.out; omega)).trans HBQ3.out; have k9 := blk_cell (i := 9) bq4 rfl; have kf9 := blk_free bq4 9; obtain ⟨w5, h5⟩ : ∃ w5, w4.setCell ⟨b, 9, none⟩ (.slice a' (out.length + 1) c') = w5 := ⟨_, rfl⟩; have NX := Lib.hid (STEP.out a' c' w4 w5 own2 hg4 h5); have HW5 := Lib.hid h5; clear h5 own' own2 hg4 dd bq4)
            go_roundw
            case rel => exact ⟨_, _, _, by rw [HW5.out]; exact NX⟩
            case measure => rw [HW5.out, NX.out.rng.left_eq, QL.out]; exact LT.out

end Go.Proofs.YtddageahmgaigaaGreat
