/-
  routingref30.Router.
-/
import Derived.Test.YtddageahmgaigaaGreatRr0
import Derived.Test.YtddageahmgaigaaGreatRr1
import Derived.Test.YtddageahmgaigaaGreatRr3
import Derived.Test.YtddageahmgaigaaGreatRtw
import Derived.Deep.DeepCutAuto
namespace Go.Proofs.YtddageahmgaigaaGreat
open Go.RowKit

set_option maxHeartbeats 16000000 in
set_option maxRecDepth 100000 in
theorem rrouter_calls (w : World) (s : Stt) (area : Int) (ifs : List IfD) (hi : IfsAt w (.slice s.ia s.iN s.ic) ifs)
    (OK : ∀ d ∈ ifs, IfOk d) (AS : ∀ d ∈ ifs, d.nb.Pairwise fun a b => a.r < b.r) (HN : (linksK s.rt area ifs ifs.length).length ≤ 4194304) :
    Calls Tryz.prog 15 #[.agg (sttE s).toArray, .int .u32 area] w (RtPost w s.rt (bordP ifs) (decide (0 < s.an.n)) (linksK s.rt area ifs ifs.length)) := by
  have IC := Lib.hid (fun W (hb : Below w.heap.size w W) => rborder_calls W _ ifs (hi.below hb))
  have HOK := Lib.hid OK
  have HAS := Lib.hid AS
  have HIN := Lib.hid hi.inn
  have HHN := Lib.hid HN
  obtain ⟨ga1, gc1, e1, hlen, hc1⟩ := hi.get
  have HC1 := Lib.hid hc1
  obtain ⟨rt, ⟨cia, cin, cic⟩, ⟨cra, crn, crc⟩, now, a1, iN, c1, ⟨ara, arn, arc⟩, ⟨exa, exn, exc⟩, ⟨ana, ann, anc⟩⟩ := s
  simp only at e1 HHN IC
  simp only [Value.slice.injEq] at e1
  obtain ⟨rfl, rfl, rfl⟩ := e1
  clear hi OK AS HN hc1
  obtain ⟨bo, hbo⟩ : ∃ bo, bordP ifs = bo := ⟨_, rfl⟩
  obtain ⟨ba, hba⟩ : ∃ ba, decide (0 < ann) = ba := ⟨_, rfl⟩
  have g1 : decide (0 < ann) = ba := hba
  simp only [hbo, hba]
  rw [hbo] at IC
  obtain ⟨LL0, hLL0⟩ : ∃ LL0, linksK rt area ifs ifs.length = LL0 := ⟨_, rfl⟩
  rw [hLL0]
  have ELL := Lib.hid hLL0
  have mixed : Tryz.prog.follows .mixedOrders = true := by kernel_rfl
  clear hbo hba hLL0
  obtain ⟨W0, hW0⟩ : ∃ W0, (w.alloc (.cells #[.int .u32 rt, .slice cia cin cic, .slice cra crn crc, .int .i64 now, .slice a1 ifs.length c1, .slice ara arn arc, .slice exa exn exc, .slice ana ann anc] 32)).alloc (.cells #[.int .i64 0, .int .u32 0, .int .i64 0, .int .u32 0, .int .i64 0, .int .i64 0, .int .i64 0, .bool false, .bool false, .slice none 0 0, .slice none 0 0, .int .i64 0, .bool false, .int .u32 0, .int .i64 0] 42) = W0 := ⟨_, rfl⟩
  have B0 : Hid (Below w.heap.size w W0) := Lib.hid (by rw [← hW0]; exact ((Below.refl _ _).alloc (Nat.le_refl _) _).alloc (by simp) _)
  have X0 : Hid (W0.heap[w.heap.size]? = some (.cells #[.int .u32 rt, .slice cia cin cic, .slice cra crn crc, .int .i64 now, .slice a1 ifs.length c1, .slice ara arn arc, .slice exa exn exc, .slice ana ann anc] 32 (0, 0))) := Lib.hid (by rw [← hW0]; exact (alloc_get _ _ _ (by simp)).trans (alloc_new _ _))
  have Z0 : Hid (W0.heap[w.heap.size + 1]? = some (.cells #[.int .i64 0, .int .u32 0, .int .i64 0, .int .u32 0, .int .i64 0, .int .i64 0, .int .i64 0, .bool false, .bool false, .slice none 0 0, .slice none 0 0, .int .i64 0, .bool false, .int .u32 0, .int .i64 0] 42 (0, 0))) := Lib.hid (by rw [← hW0]; exact blk_new2 w _ _)
  have HW0 := Lib.hid hW0
  have y0 : W0.cell? ⟨w.heap.size, 0, none⟩ = some (.int .u32 rt) := blk_cell X0.out rfl
  have y4 : W0.cell? ⟨w.heap.size, 4, none⟩ = some (.slice a1 ifs.length c1) := blk_cell X0.out rfl
  have y7 : W0.cell? ⟨w.heap.size, 7, none⟩ = some (.slice ana ann anc) := blk_cell X0.out rfl
  clear hW0
  simp only [sttE]
  go_enter Tryz.func15, Tryz.ntmps15
  go_upto_region 1 with fail
  rw [HW0.out]
  go_upto_region 2 with fail
  go_cut [6] (fun p wx => RtM w #[.int .u32 rt, .slice cia cin cic, .slice cra crn crc, .int .i64 now, .slice a1 ifs.length c1, .slice ara arn arc, .slice exa exn exc, .slice ana ann anc] (rtL rt bo ba) p wx)
  case first =>
    clear HHN HC1 HOK HAS HIN
    have n0 : ¬ W0.heap.size = w.heap.size := by have := blk_lt X0.out; omega
    have n0' : ¬ w.heap.size = W0.heap.size := by have := blk_lt X0.out; omega
    go_region_held3 (fun W' => W'.cell? ⟨w.heap.size, 4, none⟩ = some (.slice a1 ifs.length c1) ∧ W'.cell? ⟨w.heap.size, 7, none⟩ = some (.slice ana ann anc)) (first | with_reducible exact ⟨y4, y7⟩ | with_reducible exact ⟨z4, z7⟩ | with_reducible exact z4 | with_reducible exact z7 | go_keep) (first | (go_at_call 45; (with_reducible refine (IC.out _ (by first | exact B0.out.drew | exact (B0.out.alloc B0.out.size _).drew | exact B0.out)).mono ?_); rintro e w1 ⟨rfl, B1⟩; have R1 : Hid (Below w.heap.size w w1) := Lib.hid (by first | exact B0.out.drew.trans (B1.mono B0.out.size) | exact (B0.out.alloc B0.out.size _).drew.trans (B1.mono (B0.out.alloc B0.out.size _).size)); have X1 : Hid (w1.heap[w.heap.size]? = some (.cells #[.int .u32 rt, .slice cia cin cic, .slice cra crn crc, .int .i64 now, .slice a1 ifs.length c1, .slice ara arn arc, .slice exa exn exc, .slice ana ann anc] 32 (0, 0))) := Lib.hid (by first | exact (B1.block _ (blk_lt X0.out)).trans X0.out | exact (B1.block _ (blk_lt ((alloc_get _ _ _ (blk_lt X0.out)).trans X0.out))).trans ((alloc_get _ _ _ (blk_lt X0.out)).trans X0.out)); have Z1 : Hid (w1.heap[w.heap.size + 1]? = some (.cells #[.int .i64 0, .int .u32 0, .int .i64 0, .int .u32 0, .int .i64 0, .int .i64 0, .int .i64 0, .bool false, .bool false, .slice none 0 0, .slice none 0 0, .int .i64 0, .bool false, .int .u32 0, .int .i64 0] 42 (0, 0))) := Lib.hid (by first | exact (B1.block _ (blk_lt Z0.out)).trans Z0.out | exact (B1.block _ (blk_lt ((alloc_get _ _ _ (blk_lt Z0.out)).trans Z0.out))).trans ((alloc_get _ _ _ (blk_lt Z0.out)).trans Z0.out)); have HB1 := Lib.hid B1; (try (have Y1 : w1.heap[W0.heap.size]? = some (.cells #[.int .i64 0, .int .u32 0, .int .i64 0, .int .u32 0, .int .i64 0, .int .i64 0, .int .i64 0, .bool false, .bool false, .slice none 0 0, .slice none 0 0, .int .i64 0, .bool false, .int .u32 0, .int .i64 0] 42 (0, 0)) := (B1.block _ (show W0.heap.size < (W0.alloc (.cells #[.int .i64 0, .int .u32 0, .int .i64 0, .int .u32 0, .int .i64 0, .int .i64 0, .int .i64 0, .bool false, .bool false, .slice none 0 0, .slice none 0 0, .int .i64 0, .bool false, .int .u32 0, .int .i64 0] 42)).heap.size by simp)).trans (alloc_new W0 _); have HY1 := Lib.hid Y1; obtain ⟨⟨⟨v0, v1, v2, v3, v4⟩, ⟨v5, v6, v7, v8, v9⟩, ⟨v10, v11, v12, v13, v14⟩⟩, hfz⟩ := blk15 Y1; have zf0 := hfz 0; have zf1 := hfz 1; have zf2 := hfz 2; have zf3 := hfz 3; have zf4 := hfz 4; have zf5 := hfz 5; have zf6 := hfz 6; have zf7 := hfz 7; have zf8 := hfz 8; have zf9 := hfz 9; have zf10 := hfz 10; have zf11 := hfz 11; have zf12 := hfz 12; have zf13 := hfz 13; have zf14 := hfz 14; clear hfz Y1)); have z7 : w1.cell? ⟨w.heap.size, 7, none⟩ = some (.slice ana ann anc) := blk_cell X1.out rfl; have z4 : w1.cell? ⟨w.heap.size, 4, none⟩ = some (.slice a1 ifs.length c1) := blk_cell X1.out rfl; clear B1))
    · obtain ⟨W2, hW2⟩ : ∃ W2, w1.alloc (.cells #[.int .i64 1, .int .u32 rt, .int .i64 0, .int .u32 rt, .int .i64 0, .int .i64 0, .int .i64 0, .bool bo, .bool ba, .slice none 0 0, .slice none 0 0, .int .i64 0, .bool false, .int .u32 0, .int .i64 0] 42) = W2 := ⟨_, rfl⟩
      have MID : Hid (RtM w #[.int .u32 rt, .slice cia cin cic, .slice cra crn crc, .int .i64 now, .slice a1 ifs.length c1, .slice ara arn arc, .slice exa exn exc, .slice ana ann anc] (rtL rt bo ba) (.pointer (some ⟨w1.heap.size, 0, none⟩)) W2) := Lib.hid ⟨_, rfl, by have := blk_lt Z1.out; omega, by rw [← hW2]; exact alloc_new _ _, by rw [← hW2]; exact (alloc_get _ _ _ (blk_lt X1.out)).trans X1.out, by rw [← hW2]; exact (alloc_get _ _ _ (blk_lt Z1.out)).trans Z1.out, by rw [← hW2]; exact R1.out.alloc R1.out.size _⟩
      have HW2 := Lib.hid hW2
      clear hW2 z7 z4 X1 Z1 R1
      go_wp2_with fail
      go_meet
      rw [HW2.out]
      exact MID.out
    · obtain ⟨W2, hW2⟩ : ∃ W2, setLsa w1 W0.heap.size ⟨1, rt, 0, rt, 0, 0, 0, bo, ba, none, 0, 0, none, 0, 0, 0, false, 0, 0⟩ = W2 := ⟨_, rfl⟩
      have gS : w1.grownBy W2 (some W0.heap.size) := by rw [← hW2]; exact setLsa_grown _ _ _
      have sz0 : w.heap.size + 2 ≤ W0.heap.size := by have := blk_lt Z0.out; omega
      have MID : Hid (RtM w #[.int .u32 rt, .slice cia cin cic, .slice cra crn crc, .int .i64 now, .slice a1 ifs.length c1, .slice ara arn arc, .slice exa exn exc, .slice ana ann anc] (rtL rt bo ba) (.pointer (some ⟨W0.heap.size, 0, none⟩)) W2) := Lib.hid ⟨_, rfl, sz0, by rw [← hW2]; exact setLsa_blk HY1.out _, (gS.block _ (blk_lt X1.out) (by simp; omega)).trans X1.out, (gS.block _ (blk_lt Z1.out) (by simp; omega)).trans Z1.out, R1.out.grown gS R1.out.size (fun j hj => by cases hj; omega)⟩
      unfold setLsa at hW2
      simp only at hW2
      have HW2 := Lib.hid hW2
      clear hW2 z7 z4 X1 Z1 R1 gS sz0 HY1 zf0 zf1 zf2 zf3 zf4 zf5 zf6 zf7 zf8 zf9 zf10 zf11 zf12 zf13 zf14 v0 v1 v2 v3 v4 v5 v6 v7 v8 v9 v10 v11 v12 v13 v14
      go_wp2_with fail
      go_meet
      rw [HW2.out]
      exact MID.out
  case rest =>
    clear IC B0 X0 Z0 HW0 y0 y4 y7 g1
    obtain ⟨b, rfl, hb2, HB, HX, HZ, BW⟩ := hcut
    have ST : Hid (RrS w #[.int .u32 rt, .slice cia cin cic, .slice cra crn crc, .int .i64 now, .slice a1 ifs.length c1, .slice ara arn arc, .slice exa exn exc, .slice ana ann anc] b (rtL rt bo ba) (linksK rt area ifs 0) none 0 [] wc) := Lib.hid ⟨HB, ⟨none, 0, rfl, Nat.le_refl _, by unfold maxLen; omega, fun _ => rfl, fun h => absurd h (by simp)⟩, (fun b off n c e => by cases e), LinksOf.nil, Nat.le_refl _, HX, HZ, BW, hb2⟩
    clear HB HX HZ BW hb2
    go_wp2_with fail
    go_loopw [7] (fun ix wr => ∃ (k : Nat) (a : Option Addr) (c : Nat) (lk : List Lnk), ix = .int .i64 k ∧ k ≤ ifs.length ∧ Hid (RrS w #[.int .u32 rt, .slice cia cin cic, .slice cra crn crc, .int .i64 now, .slice a1 ifs.length c1, .slice ara arn arc, .slice exa exn exc, .slice ana ann anc] b (rtL rt bo ba) (linksK rt area ifs k) a c lk wr)) (fun ix _ => ifs.length - (intOf ix).toNat)
    case atStart => exact ⟨0, none, 0, [], rfl, Nat.zero_le _, ST⟩
    case round =>
      clear ST
      obtain ⟨k, a, c, lk, rfl, hk, R⟩ := hrel
      have y4 : wr.cell? ⟨w.heap.size, 4, none⟩ = some (.slice a1 ifs.length c1) := blk_cell R.out.sx rfl
      by_cases ck : k < ifs.length
      · obtain ⟨b1, o1, rfl, hb1, hcc1⟩ := HC1.out (by omega)
        obtain ⟨WO, eWO⟩ : ∃ x, x = wr := ⟨_, rfl⟩
        subst eWO
        have CE := (hcc1 k ck).below R.out.bel hb1
        have SK := Lib.hid (fun h => linksK_skip (rt := rt) (area := area) ck h)
        have TK := Lib.hid (fun h => linksK_take (rt := rt) (area := area) ck h)
        have LN := Lib.hid (fun h => Nat.le_trans (linksK_len (rt := rt) (area := area) ck h) HHN.out)
        have OKd := Lib.hid (HOK.out ifs[k] (List.getElem_mem ck))
        have ASd := Lib.hid (HAS.out ifs[k] (List.getElem_mem ck))
        have INd := Lib.hid (HIN.out ifs[k] (List.getElem_mem ck))
        have KC := Lib.hid ck
        clear hcc1 y4
        generalize linksK rt area ifs k = LK at *
        generalize ifs[k] = d at *
        clear ck
        obtain ⟨⟨kind, pa, pl, ad, iarea, cost, prio, hel, dead, up, dr, bdr, el, nh, na, nn, nc⟩, nb⟩ := d
        simp only [selI] at SK TK LN
        cases up with
        | false =>
          refine rr_down (LK := LK) _ _ _ w WO R.out CE KC.out hlen _ _ _ _ _ _ _ _ _ _ _ _ _ _ _ _ _ _ _ _ _ _ _ _ _ _ _ _ _ _ _ _ _ _ _ _ _ _ _ _ _ _ _ _ _ _ _ _ _ _ _ _ _ _ _ _ _ _ _ _ _ _ _ _ _ _ _ _ _ _ _ _ _ _ _ _ _ _ _ _ _ _ _ _ _ _ _ _ _ _ _ _ _ _ _ _ _ _ _ _ _ _ _ _ _ _ _ _ _ _ _ _ _ _ _ _ _ _ _ _ _ _ _ ?_
          intro v7 v8 v9 v10 v11 v26 v27 v28 v29 v30 v31 v32 v33 v34 v35 v36 v37 v38 v39 v40 v41 v42 v43 v44 v45 v46 v47 v48 v49 v50 v51 v52 v53 v54 v55 v56 v57 v58 v59 v60 v61 v62 v63 v64 v65 v66 v67 v68 v69 v70 v71 v72 v73 v74 v75 v76 v77 v78 v79 v80 v81 v82 v83 v84 v85 v86 v87 v88 v89 v90 v91 v92 v93 v94 v95 v96 v97 v98 v99 v100 v101 v102 v103 v104 v105 v106 v107 v108 v109 v110 v111 v112 v113 v114 v115 v116 v117 v118 v119 v120 v121 v122 v123 v124 v125 v126 v127 a c lk w' e7 R'
          subst e7
          have NX : Hid (RrS w #[.int .u32 rt, .slice cia cin cic, .slice cra crn crc, .int .i64 now, .slice (some ⟨b1, o1, none⟩) ifs.length c1, .slice ara arn arc, .slice exa exn exc, .slice ana ann anc] b (rtL rt bo ba) (linksK rt area ifs (k + 1)) a c lk w') := Lib.hid (by rw [SK.out rfl]; exact R')
          clear R' R CE SK TK LN OKd ASd INd
          dsimp only
          go_roundw
          case rel => exact ⟨k + 1, a, c, lk, rfl, KC.out, NX⟩
          case measure => simp [intOf]; have := KC.out; omega
        | true =>
        by_cases q : iarea = area
        case neg =>
          refine rr_other (LK := LK) _ _ _ w WO R.out CE KC.out hlen q _ _ _ _ _ _ _ _ _ _ _ _ _ _ _ _ _ _ _ _ _ _ _ _ _ _ _ _ _ _ _ _ _ _ _ _ _ _ _ _ _ _ _ _ _ _ _ _ _ _ _ _ _ _ _ _ _ _ _ _ _ _ _ _ _ _ _ _ _ _ _ _ _ _ _ _ _ _ _ _ _ _ _ _ _ _ _ _ _ _ _ _ _ _ _ _ _ _ _ _ _ _ _ _ _ _ _ _ _ _ _ _ _ _ _ _ _ _ _ _ _ _ _ ?_
          intro v7 v8 v9 v10 v11 v26 v27 v28 v29 v30 v31 v32 v33 v34 v35 v36 v37 v38 v39 v40 v41 v42 v43 v44 v45 v46 v47 v48 v49 v50 v51 v52 v53 v54 v55 v56 v57 v58 v59 v60 v61 v62 v63 v64 v65 v66 v67 v68 v69 v70 v71 v72 v73 v74 v75 v76 v77 v78 v79 v80 v81 v82 v83 v84 v85 v86 v87 v88 v89 v90 v91 v92 v93 v94 v95 v96 v97 v98 v99 v100 v101 v102 v103 v104 v105 v106 v107 v108 v109 v110 v111 v112 v113 v114 v115 v116 v117 v118 v119 v120 v121 v122 v123 v124 v125 v126 v127 a c lk w' e7 R'
          subst e7
          have NX : Hid (RrS w #[.int .u32 rt, .slice cia cin cic, .slice cra crn crc, .int .i64 now, .slice (some ⟨b1, o1, none⟩) ifs.length c1, .slice ara arn arc, .slice exa exn exc, .slice ana ann anc] b (rtL rt bo ba) (linksK rt area ifs (k + 1)) a c lk w') := Lib.hid (by rw [SK.out (by simp [q])]; exact R')
          clear R' R CE SK TK LN OKd ASd INd
          dsimp only
          go_roundw
          case rel => exact ⟨k + 1, a, c, lk, rfl, KC.out, NX⟩
          case measure => simp [intOf]; have := KC.out; omega
        case pos =>
          subst q
          rcases (show kind = 3 ∨ kind = 2 ∨ kind = 1 by have h1 := OKd.out.k1; have h3 := OKd.out.k3; simp only at h1 h3; omega) with rfl | rfl | rfl
          · refine rr_kind3 (LK := LK) _ _ _ w WO R.out CE KC.out hlen OKd.out ASd.out INd.out (LN.out (by simp)) _ _ _ _ _ _ _ _ _ _ _ _ _ _ _ _ _ _ _ _ _ _ _ _ _ _ _ _ _ _ _ _ _ _ _ _ _ _ _ _ _ _ _ _ _ _ _ _ _ _ _ _ _ _ _ _ _ _ _ _ _ _ _ _ _ _ _ _ _ _ _ _ _ _ _ _ _ _ _ _ _ _ _ _ _ _ _ _ _ _ _ _ _ _ _ _ _ _ _ _ _ _ _ _ _ _ _ _ _ _ _ _ _ _ _ _ _ _ _ _ _ _ _ ?_
            intro v7 v8 v9 v10 v11 v26 v27 v28 v29 v30 v31 v32 v33 v34 v35 v36 v37 v38 v39 v40 v41 v42 v43 v44 v45 v46 v47 v48 v49 v50 v51 v52 v53 v54 v55 v56 v57 v58 v59 v60 v61 v62 v63 v64 v65 v66 v67 v68 v69 v70 v71 v72 v73 v74 v75 v76 v77 v78 v79 v80 v81 v82 v83 v84 v85 v86 v87 v88 v89 v90 v91 v92 v93 v94 v95 v96 v97 v98 v99 v100 v101 v102 v103 v104 v105 v106 v107 v108 v109 v110 v111 v112 v113 v114 v115 v116 v117 v118 v119 v120 v121 v122 v123 v124 v125 v126 v127 a c lk w' e7 R'
            subst e7
            have NX : Hid (RrS w #[.int .u32 rt, .slice cia cin cic, .slice cra crn crc, .int .i64 now, .slice (some ⟨b1, o1, none⟩) ifs.length c1, .slice ara arn arc, .slice exa exn exc, .slice ana ann anc] b (rtL rt bo ba) (linksK rt iarea ifs (k + 1)) a c lk w') := Lib.hid (by rw [TK.out (by simp)]; exact R')
            clear R' R CE SK TK LN OKd ASd INd
            dsimp only
            go_roundw
            case rel => exact ⟨k + 1, a, c, lk, rfl, KC.out, NX⟩
            case measure => simp [intOf]; have := KC.out; omega
          · refine rr_kind2 (LK := LK) _ _ _ w WO R.out CE KC.out hlen OKd.out ASd.out INd.out (LN.out (by simp)) _ _ _ _ _ _ _ _ _ _ _ _ _ _ _ _ _ _ _ _ _ _ _ _ _ _ _ _ _ _ _ _ _ _ _ _ _ _ _ _ _ _ _ _ _ _ _ _ _ _ _ _ _ _ _ _ _ _ _ _ _ _ _ _ _ _ _ _ _ _ _ _ _ _ _ _ _ _ _ _ _ _ _ _ _ _ _ _ _ _ _ _ _ _ _ _ _ _ _ _ _ _ _ _ _ _ _ _ _ _ _ _ _ _ _ _ _ _ _ _ _ _ _ ?_
            intro v7 v8 v9 v10 v11 v26 v27 v28 v29 v30 v31 v32 v33 v34 v35 v36 v37 v38 v39 v40 v41 v42 v43 v44 v45 v46 v47 v48 v49 v50 v51 v52 v53 v54 v55 v56 v57 v58 v59 v60 v61 v62 v63 v64 v65 v66 v67 v68 v69 v70 v71 v72 v73 v74 v75 v76 v77 v78 v79 v80 v81 v82 v83 v84 v85 v86 v87 v88 v89 v90 v91 v92 v93 v94 v95 v96 v97 v98 v99 v100 v101 v102 v103 v104 v105 v106 v107 v108 v109 v110 v111 v112 v113 v114 v115 v116 v117 v118 v119 v120 v121 v122 v123 v124 v125 v126 v127 a c lk w' e7 R'
            subst e7
            have NX : Hid (RrS w #[.int .u32 rt, .slice cia cin cic, .slice cra crn crc, .int .i64 now, .slice (some ⟨b1, o1, none⟩) ifs.length c1, .slice ara arn arc, .slice exa exn exc, .slice ana ann anc] b (rtL rt bo ba) (linksK rt iarea ifs (k + 1)) a c lk w') := Lib.hid (by rw [TK.out (by simp)]; exact R')
            clear R' R CE SK TK LN OKd ASd INd
            dsimp only
            go_roundw
            case rel => exact ⟨k + 1, a, c, lk, rfl, KC.out, NX⟩
            case measure => simp [intOf]; have := KC.out; omega
          · refine rr_kind1 (LK := LK) _ _ _ w WO R.out CE KC.out hlen OKd.out ASd.out INd.out (LN.out (by simp)) _ _ _ _ _ _ _ _ _ _ _ _ _ _ _ _ _ _ _ _ _ _ _ _ _ _ _ _ _ _ _ _ _ _ _ _ _ _ _ _ _ _ _ _ _ _ _ _ _ _ _ _ _ _ _ _ _ _ _ _ _ _ _ _ _ _ _ _ _ _ _ _ _ _ _ _ _ _ _ _ _ _ _ _ _ _ _ _ _ _ _ _ _ _ _ _ _ _ _ _ _ _ _ _ _ _ _ _ _ _ _ _ _ _ _ _ _ _ _ _ _ _ _ ?_
            intro v7 v8 v9 v10 v11 v26 v27 v28 v29 v30 v31 v32 v33 v34 v35 v36 v37 v38 v39 v40 v41 v42 v43 v44 v45 v46 v47 v48 v49 v50 v51 v52 v53 v54 v55 v56 v57 v58 v59 v60 v61 v62 v63 v64 v65 v66 v67 v68 v69 v70 v71 v72 v73 v74 v75 v76 v77 v78 v79 v80 v81 v82 v83 v84 v85 v86 v87 v88 v89 v90 v91 v92 v93 v94 v95 v96 v97 v98 v99 v100 v101 v102 v103 v104 v105 v106 v107 v108 v109 v110 v111 v112 v113 v114 v115 v116 v117 v118 v119 v120 v121 v122 v123 v124 v125 v126 v127 a c lk w' e7 R'
            subst e7
            have NX : Hid (RrS w #[.int .u32 rt, .slice cia cin cic, .slice cra crn crc, .int .i64 now, .slice (some ⟨b1, o1, none⟩) ifs.length c1, .slice ara arn arc, .slice exa exn exc, .slice ana ann anc] b (rtL rt bo ba) (linksK rt iarea ifs (k + 1)) a c lk w') := Lib.hid (by rw [TK.out (by simp)]; exact R')
            clear R' R CE SK TK LN OKd ASd INd
            dsimp only
            go_roundw
            case rel => exact ⟨k + 1, a, c, lk, rfl, KC.out, NX⟩
            case measure => simp [intOf]; have := KC.out; omega
      · obtain rfl : k = ifs.length := by omega
        rw [ELL.out] at R
        have bq8 := R.out.bk
        simp only [lsaE, lsaLk, rtL] at bq8
        have NB8 : ¬ b = w.heap.size + 1 := by have := R.out.hb; omega
        have HZ8 : Hid (wr.heap[w.heap.size + 1]? = some (.cells #[.int .i64 0, .int .u32 0, .int .i64 0, .int .u32 0, .int .i64 0, .int .i64 0, .int .i64 0, .bool false, .bool false, .slice none 0 0, .slice none 0 0, .int .i64 0, .bool false, .int .u32 0, .int .i64 0] 42 (0, 0))) := Lib.hid R.out.sz
        obtain DD := blk15 bq8
        clear bq8
        obtain ⟨W', hW'⟩ : ∃ W', setLsa wr (w.heap.size + 1) ⟨1, rt, 0, rt, 0, 0, 0, bo, ba, a, lk.length, c, none, 0, 0, 0, false, 0, 0⟩ = W' := ⟨_, rfl⟩
        have bk' : W'.heap[w.heap.size + 1]? = some (.cells #[.int .i64 1, .int .u32 rt, .int .i64 0, .int .u32 rt, .int .i64 0, .int .i64 0, .int .i64 0, .bool bo, .bool ba, .slice a lk.length c, .slice none 0 0, .int .i64 0, .bool false, .int .u32 0, .int .i64 0] 42 (0, 0)) := by rw [← hW']; exact setLsa_blk HZ8.out _
        have BW' : Below w.heap.size w W' := by rw [← hW']; exact setLsa_below R.out.bel (Nat.le_add_right _ _) _
        have BN : wr.grownBy W' (some (w.heap.size + 1)) := by rw [← hW']; exact setLsa_grown _ _ _
        have AT' : LnksAt W' (.slice a lk.length c) lk := R.out.lat.far R.out.fr (by have := R.out.hb; omega) BN
        have FIN : Hid (RtPost w rt bo ba LL0 (.returned (.agg #[.int .i64 1, .int .u32 rt, .int .i64 0, .int .u32 rt, .int .i64 0, .int .i64 0, .int .i64 0, .bool bo, .bool ba, .slice a lk.length c, .slice none 0 0, .int .i64 0, .bool false, .int .u32 0, .int .i64 0])) W') := Lib.hid ⟨a, c, lk, rfl, AT', R.out.ok, BW'⟩
        unfold setLsa at hW'
        simp only at hW'
        have HW' := Lib.hid hW'
        obtain ⟨⟨⟨z0, z1, z2, z3, z4⟩, ⟨z5, z6, z7, z8, z9⟩, ⟨z10, z11, z12, z13, z14⟩⟩, hfz⟩ := blk15 HZ8.out
        have zf0 := hfz 0
        have zf1 := hfz 1
        have zf2 := hfz 2
        have zf3 := hfz 3
        have zf4 := hfz 4
        have zf5 := hfz 5
        have zf6 := hfz 6
        have zf7 := hfz 7
        have zf8 := hfz 8
        have zf9 := hfz 9
        have zf10 := hfz 10
        have zf11 := hfz 11
        have zf12 := hfz 12
        have zf13 := hfz 13
        have zf14 := hfz 14
        obtain ⟨⟨⟨g0, g1, g2, g3, g4⟩, ⟨g5, g6, g7, g8, g9⟩, ⟨g10, g11, g12, g13, g14⟩⟩, -⟩ := blk15 bk'
        have G := Lib.hid (And.intro g0 (And.intro g1 (And.intro g2 (And.intro g3 (And.intro g4 (And.intro g5 (And.intro g6 (And.intro g7 (And.intro g8 (And.intro g9 (And.intro g10 (And.intro g11 (And.intro g12 (And.intro g13 g14))))))))))))))
        clear hW' bk' BW' BN hfz g0 g1 g2 g3 g4 g5 g6 g7 g8 g9 g10 g11 g12 g13 g14 AT'
        go_wp2_with fail
        rw [HW'.out]
        obtain ⟨g0, g1, g2, g3, g4, g5, g6, g7, g8, g9, g10, g11, g12, g13, g14⟩ := G.out
        exact bodyPost_ret (v := .agg #[.int .i64 1, .int .u32 rt, .int .i64 0, .int .u32 rt, .int .i64 0, .int .i64 0, .int .i64 0, .bool bo, .bool ba, .slice a lk.length c, .slice none 0 0, .int .i64 0, .bool false, .int .u32 0, .int .i64 0]) (by simp [results, Tryz.results15, go_sem, g0, g1, g2, g3, g4, g5, g6, g7, g8, g9, g10, g11, g12, g13, g14]) rfl FIN.out

end Go.Proofs.YtddageahmgaigaaGreat
