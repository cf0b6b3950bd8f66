/-
  routingref30.Router's inner loop.
-/
/-
  routingref30.Router's round at an interface of kind 1.
-/
import Derived.Test.YtddageahmgaigaaGreatRr0
namespace Go.Proofs.YtddageahmgaigaaGreat
open Go.RowKit

set_option maxHeartbeats 16000000 in
set_option maxRecDepth 100000 in
theorem rr_inner {cia cra ara exa ana na : Option Addr} {cin cic crn crc arn arc exn exc ann anc b1 o1 n c1 b xb nc : Nat} {now rt pa pl ad iarea cost prio hel dead dr bdr el nh : Int} {bo ba : Bool} {LK : List Lnk} {nb : List Nb} {a : Option Addr} {c : Nat} {lk : List Lnk} (KA KB NX KX : Act → World → Prop) (PO : Ending → World → Prop) (w W5 : World) (R0 : RrS w #[.int .u32 rt, .slice cia cin cic, .slice cra crn crc, .int .i64 now, .slice (some ⟨b1, o1, none⟩) n c1, .slice ara arn arc, .slice exa exn exc, .slice ana ann anc] b (rtL rt bo ba) (LK) a c lk W5) (BX0 : W5.heap[xb]? = some (.cells #[.int .i64 1, .int .u32 pa, .int .i64 pl, .int .u32 ad, .int .u32 iarea, .int .i64 cost, .int .i64 prio, .int .i64 hel, .int .i64 dead, .bool true, .int .u32 dr, .int .u32 bdr, .int .i64 el, .int .i64 nh, .slice na nb.length nc] 69 (0, 0))) (ne : xb ≠ b) (hnb : NbsAt w (.slice na nb.length nc) nb)
    (ln : LK.length + (ptK ⟨1, pa, pl, ad, iarea, cost, prio, hel, dead, true, dr, bdr, el, nh, na, nb.length, nc⟩ nb nb.length).length ≤ 4194304) (u0 u3 u7 u10 u11 u12 u13 u14 u15 u16 u17 u18 u19 u20 u21 u22 u23 u24 u25 u26 u27 u28 u29 u30 u31 u32 u33 u34 u35 u36 u37 u38 u39 u40 u41 u42 u43 u44 u45 u46 u47 u48 u49 u50 u51 u52 u53 u54 u55 u56 u57 u58 u59 u60 u61 u62 u63 u64 u65 u66 u67 u68 u69 u70 u71 u72 u73 u74 u75 u76 u77 u78 u79 u80 u81 u82 u83 u84 u85 u86 u87 u88 u89 u90 u91 u92 u93 u94 u95 u96 u97 u98 u99 u100 u101 u102 u103 u104 u105 u106 u107 u108 u109 u110 u111 u112 u113 u114 u115 u116 u117 u118 u119 u120 u121 u122 u123 u124 u125 u126 u127 u128 : Value)
    (HQ0 : ∀ (v9 v53 v54 v55 v56 v57 v58 v59 v60 v61 v62 v63 v64 v65 v66 v67 v68 v69 v70 v71 v72 v73 v74 v75 v76 v77 v78 v79 v80 v81 v82 v83 : Value) (a : Option Addr) (c : Nat) (lk : List Lnk) (w' : World), RrS w #[.int .u32 rt, .slice cia cin cic, .slice cra crn crc, .int .i64 now, .slice (some ⟨b1, o1, none⟩) n c1, .slice ara arn arc, .slice exa exn exc, .slice ana ann anc] b (rtL rt bo ba) (LK ++ ptK ⟨1, pa, pl, ad, iarea, cost, prio, hel, dead, true, dr, bdr, el, nh, na, nb.length, nc⟩ nb nb.length) a c lk w' → w'.heap[xb]? = some (.cells #[.int .i64 1, .int .u32 pa, .int .i64 pl, .int .u32 ad, .int .u32 iarea, .int .i64 cost, .int .i64 prio, .int .i64 hel, .int .i64 dead, .bool true, .int .u32 dr, .int .u32 bdr, .int .i64 el, .int .i64 nh, .slice na nb.length nc] 69 (0, 0)) → KA ⟨#[u0, .int .u32 iarea, .pointer (some ⟨w.heap.size, 0, none⟩), u3, .pointer (some ⟨w.heap.size + 1, 0, none⟩), .int .u32 rt, .pointer (some ⟨b, 0, none⟩), u7, .pointer (some ⟨xb, 0, none⟩), v9, u10, u11, u12, u13, u14, u15, u16, u17, u18, u19, u20, u21, u22, u23, u24, u25, u26, u27, u28, u29, u30, u31, u32, u33, u34, u35, u36, u37, u38, u39, u40, u41, u42, u43, u44, u45, u46, u47, u48, u49, u50, u51, u52, v53, v54, v55, v56, v57, v58, v59, v60, v61, v62, v63, v64, v65, v66, v67, v68, v69, v70, v71, v72, v73, v74, v75, v76, v77, v78, v79, v80, v81, v82, v83, u84, u85, u86, u87, u88, u89, u90, u91, u92, u93, u94, u95, u96, u97, u98, u99, u100, u101, u102, u103, u104, u105, u106, u107, u108, u109, u110, u111, u112, u113, u114, u115, u116, u117, u118, u119, u120, u121, u122, u123, u124, u125, u126, u127, u128], []⟩ w') :
    Code.wp Tryz.prog (.loop rrIn) (Exit.inBlock 3 (Exit.then KA (Exit.inBlock 2 (Exit.inBlock 1 (Exit.then KB (Exit.then NX (Exit.inBlock 0 (Exit.then KX (bodyPost Tryz.prog Tryz.f15 PO))))))))) ⟨#[u0, .int .u32 iarea, .pointer (some ⟨w.heap.size, 0, none⟩), u3, .pointer (some ⟨w.heap.size + 1, 0, none⟩), .int .u32 rt, .pointer (some ⟨b, 0, none⟩), u7, .pointer (some ⟨xb, 0, none⟩), .int .i64 0, u10, u11, u12, u13, u14, u15, u16, u17, u18, u19, u20, u21, u22, u23, u24, u25, u26, u27, u28, u29, u30, u31, u32, u33, u34, u35, u36, u37, u38, u39, u40, u41, u42, u43, u44, u45, u46, u47, u48, u49, u50, u51, u52, u53, u54, u55, u56, u57, u58, u59, u60, u61, u62, u63, u64, u65, u66, u67, u68, u69, u70, u71, u72, u73, u74, u75, u76, u77, u78, u79, u80, u81, u82, u83, u84, u85, u86, u87, u88, u89, u90, u91, u92, u93, u94, u95, u96, u97, u98, u99, u100, u101, u102, u103, u104, u105, u106, u107, u108, u109, u110, u111, u112, u113, u114, u115, u116, u117, u118, u119, u120, u121, u122, u123, u124, u125, u126, u127, u128], []⟩ W5 := by
  conv => enter [2, 1]; whnf
  have HQ := Lib.hid HQ0
  have NEB := Lib.hid ne
  have mixed : Tryz.prog.follows .mixedOrders = true := by kernel_rfl
  obtain ⟨na', nc', en, hnl, hcn⟩ := hnb.get
  simp only [Value.slice.injEq] at en
  obtain ⟨rfl, -, rfl⟩ := en
  have HCN := Lib.hid hcn
  have SP : Hid (∀ i, (c : i < nb.length) → nb[i].st ≠ 6 → ptK ⟨1, pa, pl, ad, iarea, cost, prio, hel, dead, true, dr, bdr, el, nh, na, nb.length, nc⟩ nb (i + 1) = ptK ⟨1, pa, pl, ad, iarea, cost, prio, hel, dead, true, dr, bdr, el, nh, na, nb.length, nc⟩ nb i) := Lib.hid (fun i c h => ptK_skip c h)
  have TP : Hid (∀ i, (c : i < nb.length) → nb[i].st = 6 → ptK ⟨1, pa, pl, ad, iarea, cost, prio, hel, dead, true, dr, bdr, el, nh, na, nb.length, nc⟩ nb (i + 1) = ptK ⟨1, pa, pl, ad, iarea, cost, prio, hel, dead, true, dr, bdr, el, nh, na, nb.length, nc⟩ nb i ++ [⟨1, nb[i].r, ad, cost⟩]) := Lib.hid (fun i c h => ptK_take c h)
  have P0 : Hid (ptK ⟨1, pa, pl, ad, iarea, cost, prio, hel, dead, true, dr, bdr, el, nh, na, nb.length, nc⟩ nb 0 = []) := Lib.hid (by unfold ptK; rw [List.take_zero]; rfl)
  have PTL : Hid (∀ i, (ptK ⟨1, pa, pl, ad, iarea, cost, prio, hel, dead, true, dr, bdr, el, nh, na, nb.length, nc⟩ nb i).length ≤ (ptK ⟨1, pa, pl, ad, iarea, cost, prio, hel, dead, true, dr, bdr, el, nh, na, nb.length, nc⟩ nb nb.length).length) := Lib.hid (fun i => by rw [ptK_all]; exact ptK_len _ _ _)
  have LN1 := Lib.hid ln
  obtain ⟨PK, hPK⟩ : ∃ PK, ptK ⟨1, pa, pl, ad, iarea, cost, prio, hel, dead, true, dr, bdr, el, nh, na, nb.length, nc⟩ nb = PK := ⟨_, rfl⟩
  rw [hPK] at LN1 SP TP P0 PTL HQ
  have ST2 : Hid (RrS w #[.int .u32 rt, .slice cia cin cic, .slice cra crn crc, .int .i64 now, .slice (some ⟨b1, o1, none⟩) n c1, .slice ara arn arc, .slice exa exn exc, .slice ana ann anc] b (rtL rt bo ba) (LK ++ PK 0) a c lk W5 ∧ W5.heap[xb]? = some (.cells #[.int .i64 1, .int .u32 pa, .int .i64 pl, .int .u32 ad, .int .u32 iarea, .int .i64 cost, .int .i64 prio, .int .i64 hel, .int .i64 dead, .bool true, .int .u32 dr, .int .u32 bdr, .int .i64 el, .int .i64 nh, .slice na nb.length nc] 69 (0, 0))) := Lib.hid ⟨by rw [P0.out, List.append_nil]; exact R0, BX0⟩
  clear hnb hcn hPK P0 HQ0 ne R0 BX0 ln
  dsimp only
  go_loopw [9] (fun ix wq => ∃ (i : Nat) (a : Option Addr) (c : Nat) (lk : List Lnk), ix = .int .i64 i ∧ i ≤ nb.length ∧ Hid (RrS w #[.int .u32 rt, .slice cia cin cic, .slice cra crn crc, .int .i64 now, .slice (some ⟨b1, o1, none⟩) n c1, .slice ara arn arc, .slice exa exn exc, .slice ana ann anc] b (rtL rt bo ba) (LK ++ PK i) a c lk wq ∧ wq.heap[xb]? = some (.cells #[.int .i64 1, .int .u32 pa, .int .i64 pl, .int .u32 ad, .int .u32 iarea, .int .i64 cost, .int .i64 prio, .int .i64 hel, .int .i64 dead, .bool true, .int .u32 dr, .int .u32 bdr, .int .i64 el, .int .i64 nh, .slice na nb.length nc] 69 (0, 0)))) (fun ix _ => nb.length - (intOf ix).toNat)
  case atStart => exact ⟨0, _, _, _, rfl, Nat.zero_le _, ST2⟩
  case round =>
    clear ST2
    obtain ⟨i, a, c, lk, rfl, hi, R⟩ := hrel
    have BX := Lib.hid R.out.2
    have RR := Lib.hid R.out.1
    clear R
    by_cases ci : i < nb.length
    · obtain ⟨b2, o2, rfl, hb2, hcc2⟩ := HCN.out (by omega)
      obtain ⟨⟨n0, n1, n2, n3, n4⟩, ⟨n5, n6, n7, n8, n9⟩, ⟨n10, n11, n12, n13, n14⟩⟩ := (hcc2 i ci).below RR.out.bel hb2
      have KI := Lib.hid ci
      have j0 : (0 : Int) ≤ (i : Int) := by omega
      have j1 : (i : Int) < (nb.length : Int) := by omega
      have j3 : ((i : Int)).toNat = i := by omega
      have x14 : wr.cell? ⟨xb, 14, none⟩ = some (.slice (some ⟨b2, o2, none⟩) nb.length nc) := blk_cell BX.out rfl
      by_cases q6 : nb[i].st = 6
      · replace n5 := n5.trans (congrArg (fun t => some (Value.int .i64 t)) q6)
        obtain ⟨nr, hnr⟩ : ∃ nr, nb[i].r = nr := ⟨_, rfl⟩
        replace n0 := n0.trans (congrArg (fun t => some (Value.int .u32 t)) hnr)
        have PT : Hid (PK (i + 1) = PK i ++ [⟨1, nr, ad, cost⟩]) := Lib.hid ((TP.out i ci q6).trans (congrArg (fun t => PK i ++ [⟨1, t, ad, cost⟩]) hnr))
        have LKN : Hid (lk.length ≤ 4194304) := Lib.hid (by have h1 := RR.out.len; have h2 := LN1.out; have h3 := PTL.out i; simp only [List.length_append] at h1; omega)
        have AD := Lib.hid (fun W (hb : Below wr.heap.size wr W) => radd_calls W (.slice a lk.length c) lk (RR.out.lat.below hb) LKN.out ⟨1, nr, ad, cost⟩)
        simp only [lnkE] at AD
        have v9 : wr.cell? ⟨b, 9, none⟩ = some (.slice a lk.length c) := blk_cell RR.out.bk rfl
        have x3 : wr.cell? ⟨xb, 3, none⟩ = some (.int .u32 ad) := blk_cell BX.out rfl
        have x5 : wr.cell? ⟨xb, 5, none⟩ = some (.int .i64 cost) := blk_cell BX.out rfl
        clear hcc2 n1 n2 n3 n4 n6 n7 n8 n9 n10 n11 n12 n13 n14 q6 hnr ci PTL SP TP
        go_upto_region 14 with fail
        go_region_law
          (first
          | (go_simp; go_at_call 46; (with_reducible refine (AD.out _ (by first | exact (Below.refl _ _).drew | exact Below.refl _ _)).mono ?_); rintro e w8 ⟨v8, rfl, A8, F8, B8⟩; obtain ⟨a8, c8, hv8, R8⟩ := RR.out.put (by first | exact (Below.refl _ _).drew.trans B8 | exact B8) A8 F8; subst hv8; have u9 := bcell B8 v9; have f9 := blk_free ((RR.out.grow (by first | exact (Below.refl _ _).drew.trans B8 | exact B8)).bk) 9; have HR8 := Lib.hid R8; have BX8 := Lib.hid (put_other (v := .slice a8 (addR ⟨1, nr, ad, cost⟩ false lk).length c8) ((B8.block _ (blk_lt BX.out)).trans BX.out) NEB.out); clear A8 F8 B8 R8))
        all_goals
          have NX := Lib.hid (And.intro (show RrS _ _ _ _ (LK ++ PK (i + 1)) _ _ _ _ from by rw [PT.out, ← List.append_assoc]; exact HR8.out) BX8.out)
          clear HR8 BX8 AD RR BX
          go_wp2_with fail
          go_roundw
          case rel => exact ⟨i + 1, _, _, _, by go_num, KI.out, NX⟩
          case measure => simp [intOf]; have := KI.out; omega
      · obtain ⟨st, hst⟩ : ∃ st, nb[i].st = st := ⟨_, rfl⟩
        replace n5 := n5.trans (congrArg (fun t => some (Value.int .i64 t)) hst)
        have q7 : (st == 6) = false := by rw [← hst]; simpa using q6
        have NX := Lib.hid (And.intro (show RrS _ _ _ _ (LK ++ PK (i + 1)) _ _ _ _ from by rw [SP.out i ci q6]; exact RR.out) BX.out)
        clear hcc2 n0 n1 n2 n3 n4 n6 n7 n8 n9 n10 n11 n12 n13 n14 q6 hst ci PTL SP TP RR BX
        go_wp2_with fail
        go_roundw
        case rel => exact ⟨i + 1, a, c, lk, by go_num, KI.out, NX⟩
        case measure => simp [intOf]; have := KI.out; omega
    · obtain rfl : i = nb.length := by omega
      have x14 : wr.cell? ⟨xb, 14, none⟩ = some (.slice na nb.length nc) := blk_cell BX.out rfl
      clear PTL SP TP LN1 HCN
      go_wp2_with fail
      exact HQ.out _ _ _ _ _ _ _ _ _ _ _ _ _ _ _ _ _ _ _ _ _ _ _ _ _ _ _ _ _ _ _ _ _ _ _ _ RR.out BX.out

end Go.Proofs.YtddageahmgaigaaGreat

namespace Go.Proofs.YtddageahmgaigaaGreat
open Go.RowKit

theorem mem_move (A P : List Lnk) (x : Lnk) : ∀ y, y ∈ (A ++ P) ++ [x] ↔ y ∈ A ++ x :: P := by
  intro y
  simp only [List.mem_append, List.mem_cons, List.not_mem_nil, or_false]
  exact ⟨fun h => by rcases h with (h | h) | h <;> simp [h], fun h => by rcases h with h | h | h <;> simp [h]⟩

set_option maxHeartbeats 16000000 in
set_option maxRecDepth 100000 in
theorem rr_kind1 {cia cra ara exa ana na : Option Addr} {cin cic crn crc arn arc exn exc ann anc b1 o1 n c1 b nn nc k : Nat} {now rt pa pl ad iarea cost prio hel dead dr bdr el nh : Int} {bo ba : Bool} {LK : List Lnk} {nb : List Nb} {a : Option Addr} {c : Nat} {lk : List Lnk} (NX KX : Act → World → Prop) (PO : Ending → World → Prop) (w WO : World) (R0 : RrS w #[.int .u32 rt, .slice cia cin cic, .slice cra crn crc, .int .i64 now, .slice (some ⟨b1, o1, none⟩) n c1, .slice ara arn arc, .slice exa exn exc, .slice ana ann anc] b (rtL rt bo ba) (LK) a c lk WO) (CE : IfC WO b1 (o1 + k * 15) ⟨1, pa, pl, ad, iarea, cost, prio, hel, dead, true, dr, bdr, el, nh, na, nn, nc⟩) (hk : k < n) (hn : n ≤ 9223372036854775807)
    (ok : IfOk ⟨⟨1, pa, pl, ad, iarea, cost, prio, hel, dead, true, dr, bdr, el, nh, na, nn, nc⟩, nb⟩) (asd : nb.Pairwise fun a b => a.r < b.r) (ind : IfIn w ⟨⟨1, pa, pl, ad, iarea, cost, prio, hel, dead, true, dr, bdr, el, nh, na, nn, nc⟩, nb⟩) (ln : LK.length + (lksOf rt ⟨⟨1, pa, pl, ad, iarea, cost, prio, hel, dead, true, dr, bdr, el, nh, na, nn, nc⟩, nb⟩).length ≤ 4194304) (u0 u3 u8 u9 u10 u11 u12 u13 u14 u15 u16 u17 u18 u19 u20 u21 u22 u23 u24 u25 u26 u27 u28 u29 u30 u31 u32 u33 u34 u35 u36 u37 u38 u39 u40 u41 u42 u43 u44 u45 u46 u47 u48 u49 u50 u51 u52 u53 u54 u55 u56 u57 u58 u59 u60 u61 u62 u63 u64 u65 u66 u67 u68 u69 u70 u71 u72 u73 u74 u75 u76 u77 u78 u79 u80 u81 u82 u83 u84 u85 u86 u87 u88 u89 u90 u91 u92 u93 u94 u95 u96 u97 u98 u99 u100 u101 u102 u103 u104 u105 u106 u107 u108 u109 u110 u111 u112 u113 u114 u115 u116 u117 u118 u119 u120 u121 u122 u123 u124 u125 u126 u127 u128 : Value)
    (HQ0 : ∀ (v7 v8 v9 v10 v11 v26 v27 v28 v29 v30 v31 v32 v33 v34 v35 v36 v37 v38 v39 v40 v41 v42 v43 v44 v45 v46 v47 v48 v49 v50 v51 v52 v53 v54 v55 v56 v57 v58 v59 v60 v61 v62 v63 v64 v65 v66 v67 v68 v69 v70 v71 v72 v73 v74 v75 v76 v77 v78 v79 v80 v81 v82 v83 v84 v85 v86 v87 v88 v89 v90 v91 v92 v93 v94 v95 v96 v97 v98 v99 v100 v101 v102 v103 v104 v105 v106 v107 v108 v109 v110 v111 v112 v113 v114 v115 v116 v117 v118 v119 v120 v121 v122 v123 v124 v125 v126 v127 : Value) (a : Option Addr) (c : Nat) (lk : List Lnk) (w' : World), v7 = .int .i64 ((k + 1 : Nat) : Int) → RrS w #[.int .u32 rt, .slice cia cin cic, .slice cra crn crc, .int .i64 now, .slice (some ⟨b1, o1, none⟩) n c1, .slice ara arn arc, .slice exa exn exc, .slice ana ann anc] b (rtL rt bo ba) (LK ++ lksOf rt ⟨⟨1, pa, pl, ad, iarea, cost, prio, hel, dead, true, dr, bdr, el, nh, na, nn, nc⟩, nb⟩) a c lk w' → NX ⟨#[u0, .int .u32 iarea, .pointer (some ⟨w.heap.size, 0, none⟩), u3, .pointer (some ⟨w.heap.size + 1, 0, none⟩), .int .u32 rt, .pointer (some ⟨b, 0, none⟩), v7, v8, v9, v10, v11, u12, u13, u14, u15, u16, u17, u18, u19, u20, u21, u22, u23, u24, u25, v26, v27, v28, v29, v30, v31, v32, v33, v34, v35, v36, v37, v38, v39, v40, v41, v42, v43, v44, v45, v46, v47, v48, v49, v50, v51, v52, v53, v54, v55, v56, v57, v58, v59, v60, v61, v62, v63, v64, v65, v66, v67, v68, v69, v70, v71, v72, v73, v74, v75, v76, v77, v78, v79, v80, v81, v82, v83, v84, v85, v86, v87, v88, v89, v90, v91, v92, v93, v94, v95, v96, v97, v98, v99, v100, v101, v102, v103, v104, v105, v106, v107, v108, v109, v110, v111, v112, v113, v114, v115, v116, v117, v118, v119, v120, v121, v122, v123, v124, v125, v126, v127, u128], []⟩ w') :
    Code.wp Tryz.prog rrBody (Exit.then NX (Exit.inBlock 0 (Exit.then KX (bodyPost Tryz.prog Tryz.f15 PO)))) ⟨#[u0, .int .u32 iarea, .pointer (some ⟨w.heap.size, 0, none⟩), u3, .pointer (some ⟨w.heap.size + 1, 0, none⟩), .int .u32 rt, .pointer (some ⟨b, 0, none⟩), .int .i64 (k : Int), u8, u9, u10, u11, u12, u13, u14, u15, u16, u17, u18, u19, u20, u21, u22, u23, u24, u25, u26, u27, u28, u29, u30, u31, u32, u33, u34, u35, u36, u37, u38, u39, u40, u41, u42, u43, u44, u45, u46, u47, u48, u49, u50, u51, u52, u53, u54, u55, u56, u57, u58, u59, u60, u61, u62, u63, u64, u65, u66, u67, u68, u69, u70, u71, u72, u73, u74, u75, u76, u77, u78, u79, u80, u81, u82, u83, u84, u85, u86, u87, u88, u89, u90, u91, u92, u93, u94, u95, u96, u97, u98, u99, u100, u101, u102, u103, u104, u105, u106, u107, u108, u109, u110, u111, u112, u113, u114, u115, u116, u117, u118, u119, u120, u121, u122, u123, u124, u125, u126, u127, u128], []⟩ WO := by
  conv => arg 2; whnf
  have HQ := Lib.hid HQ0
  have OKd := Lib.hid ok
  have ASd := Lib.hid asd
  have INd := Lib.hid ind
  have LN1 := Lib.hid ln
  have R := Lib.hid R0
  have KC := Lib.hid hk
  have mixed : Tryz.prog.follows .mixedOrders = true := by kernel_rfl
  have y4 : WO.cell? ⟨w.heap.size, 4, none⟩ = some (.slice (some ⟨b1, o1, none⟩) n c1) := blk_cell R.out.sx rfl
  obtain ⟨⟨d0, d1, d2, d3, d4⟩, ⟨d5, d6, d7, d8, d9⟩, ⟨d10, d11, d12, d13, d14⟩⟩ := CE
  have i0 : (0 : Int) ≤ (k : Int) := by omega
  have i1 : (k : Int) < (n : Int) := by omega
  have s3 : ((k : Int)).toNat = k := by omega
  clear HQ0 ok asd ind ln R0 hk
  simp only at d0 d1 d2 d3 d4 d5 d6 d7 d8 d9 d10 d11 d12 d13 d14
  go_upto_region 7 with fail
  generalize hW5 : WO.alloc _ = W5
  have B5 : Below WO.heap.size WO W5 := by rw [← hW5]; exact (Below.refl _ _).alloc (Nat.le_refl _) _
  have b5 : Hid (W5.heap[WO.heap.size]? = some (.cells #[.int .i64 1, .int .u32 pa, .int .i64 pl, .int .u32 ad, .int .u32 iarea, .int .i64 cost, .int .i64 prio, .int .i64 hel, .int .i64 dead, .bool true, .int .u32 dr, .int .u32 bdr, .int .i64 el, .int .i64 nh, .slice na nn nc] 69 (0, 0))) := Lib.hid (by rw [← hW5]; exact alloc_new _ _)
  have R5 := Lib.hid (R.out.grow B5)
  have NEB : Hid (WO.heap.size ≠ b) := Lib.hid (by have := blk_lt R.out.bk; omega)
  have x4 : W5.cell? ⟨WO.heap.size, 4, none⟩ = some (.int .u32 iarea) := blk_cell b5.out rfl
  have x9 : W5.cell? ⟨WO.heap.size, 9, none⟩ = some (.bool true) := blk_cell b5.out rfl
  clear hW5 B5 d0 d1 d2 d3 d4 d5 d6 d7 d8 d9 d10 d11 d12 d13 d14 R y4
  go_upto_region 8 with fail
  have x0 : W5.cell? ⟨WO.heap.size, 0, none⟩ = some (.int .i64 1) := blk_cell b5.out rfl
  have INn := INd.out.nb
  obtain ⟨na', nc', en, -, -⟩ := INn.get
  simp only [Value.slice.injEq] at en
  obtain ⟨rfl, rfl, rfl⟩ := en
  have E : Hid (lksOf rt ⟨⟨1, pa, pl, ad, iarea, cost, prio, hel, dead, true, dr, bdr, el, nh, na, nb.length, nc⟩, nb⟩ = stubL ⟨1, pa, pl, ad, iarea, cost, prio, hel, dead, true, dr, bdr, el, nh, na, nb.length, nc⟩ :: ptK ⟨1, pa, pl, ad, iarea, cost, prio, hel, dead, true, dr, bdr, el, nh, na, nb.length, nc⟩ nb nb.length) := Lib.hid (by rw [ptK_all]; rfl)
  rw [E.out] at HQ LN1
  have HNB := Lib.hid INn
  clear INd INn x4 x9 E ASd
  go_wp2_with fail
  clear x0
  rename_i K hK
  refine rr_inner (LK := LK) (nb := nb) _ _ _ _ _ w W5 R5.out b5.out NEB.out HNB.out (by have := LN1.out; simp only [List.length_cons] at this; omega) _ _ _ _ _ _ _ _ _ _ _ _ _ _ _ _ _ _ _ _ _ _ _ _ _ _ _ _ _ _ _ _ _ _ _ _ _ _ _ _ _ _ _ _ _ _ _ _ _ _ _ _ _ _ _ _ _ _ _ _ _ _ _ _ _ _ _ _ _ _ _ _ _ _ _ _ _ _ _ _ _ _ _ _ _ _ _ _ _ _ _ _ _ _ _ _ _ _ _ _ _ _ _ _ _ _ _ _ _ _ _ _ _ _ _ _ _ _ _ _ _ _ ?_
  intro v9 v53 v54 v55 v56 v57 v58 v59 v60 v61 v62 v63 v64 v65 v66 v67 v68 v69 v70 v71 v72 v73 v74 v75 v76 v77 v78 v79 v80 v81 v82 v83 a c lk wr RR0 BX0
  have RR := Lib.hid RR0
  have BX := Lib.hid BX0
  clear RR0 BX0 R5 b5
  refine hK _ _ ?_
  have LKN : Hid (lk.length ≤ 4194304) := Lib.hid (by have h1 := RR.out.len; have h2 := LN1.out; simp only [List.length_append, List.length_cons] at h1 h2; omega)
  have x14 : wr.cell? ⟨WO.heap.size, 14, none⟩ = some (.slice na nb.length nc) := blk_cell BX.out rfl
  clear LN1
  go_upto_region 15 with fail
  clear x14
  have SB := Lib.hid (fun W => rstub_calls ⟨1, pa, pl, ad, iarea, cost, prio, hel, dead, true, dr, bdr, el, nh, na, nb.length, nc⟩ W OKd.out.p0 (by have := OKd.out.p1; simp only at this ⊢; omega))
  have AD := Lib.hid (fun W (hb : Below wr.heap.size wr W) => radd_calls W (.slice a lk.length c) lk (RR.out.lat.below hb) LKN.out (stubL ⟨1, pa, pl, ad, iarea, cost, prio, hel, dead, true, dr, bdr, el, nh, na, nb.length, nc⟩))
  simp only [ifcE] at SB
  simp only [stubL, lnkE] at SB AD
  have v9 : wr.cell? ⟨b, 9, none⟩ = some (.slice a lk.length c) := blk_cell RR.out.bk rfl
  obtain ⟨⟨⟨x0, x1, x2, x3, x4⟩, ⟨x5, x6, x7, x8, x9⟩, ⟨x10, x11, x12, x13, x14⟩⟩, -⟩ := blk15 BX.out
  clear x9 x10 x11 x12 x13 x14
  have fb9 := blk_free RR.out.bk 9
  go_region_law
    (first
    | (go_simp; go_at_call 47; (with_reducible refine (SB.out _).mono ?_); rintro e w7 ⟨rfl, B7⟩; have BB7 : Hid (Below wr.heap.size wr w7) := Lib.hid (by first | exact ((Below.refl _ _).drew).trans B7 | exact B7); have s9 : w7.cell? ⟨b, 9, none⟩ = some (.slice a lk.length c) := bcell BB7.out v9; have t0 := bcell BB7.out x0; have t1 := bcell BB7.out x1; have t2 := bcell BB7.out x2; have t3 := bcell BB7.out x3; have t4 := bcell BB7.out x4; have t5 := bcell BB7.out x5; have t6 := bcell BB7.out x6; have t7 := bcell BB7.out x7; have t8 := bcell BB7.out x8; clear B7)
    | (go_simp; go_at_call 46; (with_reducible refine (AD.out _ (by first | exact BB7.out | exact BB7.out.drew)).mono ?_); rintro e w8 ⟨v8, rfl, A8, F8, B8⟩; obtain ⟨a8, c8, hv8, R8⟩ := RR.out.put (BB7.out.trans (B8.mono BB7.out.size)) A8 (F8.mono BB7.out.size); subst hv8; have f9 := blk_free (((RR.out.grow (BB7.out.trans (B8.mono BB7.out.size)))).bk) 9; have HR8 := Lib.hid R8; have BB8 := BB7.out.trans (B8.mono BB7.out.size); have u9 := bcell BB8 v9; have u0 := bcell BB8 x0; have u1 := bcell BB8 x1; have u2 := bcell BB8 x2; have u3 := bcell BB8 x3; have u4 := bcell BB8 x4; have u5 := bcell BB8 x5; have u6 := bcell BB8 x6; have u7 := bcell BB8 x7; have u8 := bcell BB8 x8; clear A8 F8 B8 R8 BB8))
  all_goals
    have NX := Lib.hid (HR8.out.same (L' := LK ++ stubL ⟨1, pa, pl, ad, iarea, cost, prio, hel, dead, true, dr, bdr, el, nh, na, nb.length, nc⟩ :: ptK ⟨1, pa, pl, ad, iarea, cost, prio, hel, dead, true, dr, bdr, el, nh, na, nb.length, nc⟩ nb nb.length) (mem_move _ _ _) (by simp only [List.length_append, List.length_cons, List.length_nil]; omega))
    clear HR8 SB AD BB7 RR BX
    go_wp2_with fail
    exact HQ.out _ _ _ _ _ _ _ _ _ _ _ _ _ _ _ _ _ _ _ _ _ _ _ _ _ _ _ _ _ _ _ _ _ _ _ _ _ _ _ _ _ _ _ _ _ _ _ _ _ _ _ _ _ _ _ _ _ _ _ _ _ _ _ _ _ _ _ _ _ _ _ _ _ _ _ _ _ _ _ _ _ _ _ _ _ _ _ _ _ _ _ _ _ _ _ _ _ _ _ _ _ _ _ _ _ _ _ _ _ _ _ (by go_num) NX.out


end Go.Proofs.YtddageahmgaigaaGreat
