/-
  routingref30.Router's round at an interface of kind 2.
-/
/-
  routingref30.Router's round at an interface of kind 3.
-/
import Derived.Test.YtddageahmgaigaaGreatRr0
namespace Go.Proofs.YtddageahmgaigaaGreat
open Go.RowKit

set_option maxHeartbeats 16000000 in
set_option maxRecDepth 100000 in
theorem rr_kind2 {cia cra ara exa ana na : Option Addr} {cin cic crn crc arn arc exn exc ann anc b1 o1 n c1 b nn nc k : Nat} {now rt pa pl ad iarea cost prio hel dead dr bdr el nh : Int} {bo ba : Bool} {LK : List Lnk} {nb : List Nb} {a : Option Addr} {c : Nat} {lk : List Lnk} (NX KX : Act → World → Prop) (PO : Ending → World → Prop) (w WO : World) (R0 : RrS w #[.int .u32 rt, .slice cia cin cic, .slice cra crn crc, .int .i64 now, .slice (some ⟨b1, o1, none⟩) n c1, .slice ara arn arc, .slice exa exn exc, .slice ana ann anc] b (rtL rt bo ba) (LK) a c lk WO) (CE : IfC WO b1 (o1 + k * 15) ⟨2, pa, pl, ad, iarea, cost, prio, hel, dead, true, dr, bdr, el, nh, na, nn, nc⟩) (hk : k < n) (hn : n ≤ 9223372036854775807)
    (ok : IfOk ⟨⟨2, pa, pl, ad, iarea, cost, prio, hel, dead, true, dr, bdr, el, nh, na, nn, nc⟩, nb⟩) (asd : nb.Pairwise fun a b => a.r < b.r) (ind : IfIn w ⟨⟨2, pa, pl, ad, iarea, cost, prio, hel, dead, true, dr, bdr, el, nh, na, nn, nc⟩, nb⟩) (ln : LK.length + (lksOf rt ⟨⟨2, pa, pl, ad, iarea, cost, prio, hel, dead, true, dr, bdr, el, nh, na, nn, nc⟩, nb⟩).length ≤ 4194304) (u0 u3 u8 u9 u10 u11 u12 u13 u14 u15 u16 u17 u18 u19 u20 u21 u22 u23 u24 u25 u26 u27 u28 u29 u30 u31 u32 u33 u34 u35 u36 u37 u38 u39 u40 u41 u42 u43 u44 u45 u46 u47 u48 u49 u50 u51 u52 u53 u54 u55 u56 u57 u58 u59 u60 u61 u62 u63 u64 u65 u66 u67 u68 u69 u70 u71 u72 u73 u74 u75 u76 u77 u78 u79 u80 u81 u82 u83 u84 u85 u86 u87 u88 u89 u90 u91 u92 u93 u94 u95 u96 u97 u98 u99 u100 u101 u102 u103 u104 u105 u106 u107 u108 u109 u110 u111 u112 u113 u114 u115 u116 u117 u118 u119 u120 u121 u122 u123 u124 u125 u126 u127 u128 : Value)
    (HQ0 : ∀ (v7 v8 v9 v10 v11 v26 v27 v28 v29 v30 v31 v32 v33 v34 v35 v36 v37 v38 v39 v40 v41 v42 v43 v44 v45 v46 v47 v48 v49 v50 v51 v52 v53 v54 v55 v56 v57 v58 v59 v60 v61 v62 v63 v64 v65 v66 v67 v68 v69 v70 v71 v72 v73 v74 v75 v76 v77 v78 v79 v80 v81 v82 v83 v84 v85 v86 v87 v88 v89 v90 v91 v92 v93 v94 v95 v96 v97 v98 v99 v100 v101 v102 v103 v104 v105 v106 v107 v108 v109 v110 v111 v112 v113 v114 v115 v116 v117 v118 v119 v120 v121 v122 v123 v124 v125 v126 v127 : Value) (a : Option Addr) (c : Nat) (lk : List Lnk) (w' : World), v7 = .int .i64 ((k + 1 : Nat) : Int) → RrS w #[.int .u32 rt, .slice cia cin cic, .slice cra crn crc, .int .i64 now, .slice (some ⟨b1, o1, none⟩) n c1, .slice ara arn arc, .slice exa exn exc, .slice ana ann anc] b (rtL rt bo ba) (LK ++ lksOf rt ⟨⟨2, pa, pl, ad, iarea, cost, prio, hel, dead, true, dr, bdr, el, nh, na, nn, nc⟩, nb⟩) a c lk w' → NX ⟨#[u0, .int .u32 iarea, .pointer (some ⟨w.heap.size, 0, none⟩), u3, .pointer (some ⟨w.heap.size + 1, 0, none⟩), .int .u32 rt, .pointer (some ⟨b, 0, none⟩), v7, v8, v9, v10, v11, u12, u13, u14, u15, u16, u17, u18, u19, u20, u21, u22, u23, u24, u25, v26, v27, v28, v29, v30, v31, v32, v33, v34, v35, v36, v37, v38, v39, v40, v41, v42, v43, v44, v45, v46, v47, v48, v49, v50, v51, v52, v53, v54, v55, v56, v57, v58, v59, v60, v61, v62, v63, v64, v65, v66, v67, v68, v69, v70, v71, v72, v73, v74, v75, v76, v77, v78, v79, v80, v81, v82, v83, v84, v85, v86, v87, v88, v89, v90, v91, v92, v93, v94, v95, v96, v97, v98, v99, v100, v101, v102, v103, v104, v105, v106, v107, v108, v109, v110, v111, v112, v113, v114, v115, v116, v117, v118, v119, v120, v121, v122, v123, v124, v125, v126, v127, u128], []⟩ w') :
    Code.wp Tryz.prog rrBody (Exit.then NX (Exit.inBlock 0 (Exit.then KX (bodyPost Tryz.prog Tryz.f15 PO)))) ⟨#[u0, .int .u32 iarea, .pointer (some ⟨w.heap.size, 0, none⟩), u3, .pointer (some ⟨w.heap.size + 1, 0, none⟩), .int .u32 rt, .pointer (some ⟨b, 0, none⟩), .int .i64 (k : Int), u8, u9, u10, u11, u12, u13, u14, u15, u16, u17, u18, u19, u20, u21, u22, u23, u24, u25, u26, u27, u28, u29, u30, u31, u32, u33, u34, u35, u36, u37, u38, u39, u40, u41, u42, u43, u44, u45, u46, u47, u48, u49, u50, u51, u52, u53, u54, u55, u56, u57, u58, u59, u60, u61, u62, u63, u64, u65, u66, u67, u68, u69, u70, u71, u72, u73, u74, u75, u76, u77, u78, u79, u80, u81, u82, u83, u84, u85, u86, u87, u88, u89, u90, u91, u92, u93, u94, u95, u96, u97, u98, u99, u100, u101, u102, u103, u104, u105, u106, u107, u108, u109, u110, u111, u112, u113, u114, u115, u116, u117, u118, u119, u120, u121, u122, u123, u124, u125, u126, u127, u128], []⟩ WO := by
  conv => arg 2; whnf
  have HQ := Lib.hid HQ0
  have OKd := Lib.hid ok
  have ASd := Lib.hid asd
  have INd := Lib.hid ind
  have LN1 := Lib.hid ln
  have R := Lib.hid R0
  have KC := Lib.hid hk
  have mixed : Tryz.prog.follows .mixedOrders = true := by kernel_rfl
  have y4 : WO.cell? ⟨w.heap.size, 4, none⟩ = some (.slice (some ⟨b1, o1, none⟩) n c1) := blk_cell R.out.sx rfl
  obtain ⟨⟨d0, d1, d2, d3, d4⟩, ⟨d5, d6, d7, d8, d9⟩, ⟨d10, d11, d12, d13, d14⟩⟩ := CE
  have i0 : (0 : Int) ≤ (k : Int) := by omega
  have i1 : (k : Int) < (n : Int) := by omega
  have s3 : ((k : Int)).toNat = k := by omega
  clear HQ0 ok asd ind ln R0 hk
  simp only at d0 d1 d2 d3 d4 d5 d6 d7 d8 d9 d10 d11 d12 d13 d14
  go_upto_region 7 with fail
  generalize hW5 : WO.alloc _ = W5
  have B5 : Below WO.heap.size WO W5 := by rw [← hW5]; exact (Below.refl _ _).alloc (Nat.le_refl _) _
  have b5 : Hid (W5.heap[WO.heap.size]? = some (.cells #[.int .i64 2, .int .u32 pa, .int .i64 pl, .int .u32 ad, .int .u32 iarea, .int .i64 cost, .int .i64 prio, .int .i64 hel, .int .i64 dead, .bool true, .int .u32 dr, .int .u32 bdr, .int .i64 el, .int .i64 nh, .slice na nn nc] 69 (0, 0))) := Lib.hid (by rw [← hW5]; exact alloc_new _ _)
  have R5 := Lib.hid (R.out.grow B5)
  have NEB : Hid (WO.heap.size ≠ b) := Lib.hid (by have := blk_lt R.out.bk; omega)
  have x4 : W5.cell? ⟨WO.heap.size, 4, none⟩ = some (.int .u32 iarea) := blk_cell b5.out rfl
  have x9 : W5.cell? ⟨WO.heap.size, 9, none⟩ = some (.bool true) := blk_cell b5.out rfl
  clear hW5 B5 d0 d1 d2 d3 d4 d5 d6 d7 d8 d9 d10 d11 d12 d13 d14 R y4
  go_upto_region 8 with fail
  have x0 : W5.cell? ⟨WO.heap.size, 0, none⟩ = some (.int .i64 2) := blk_cell b5.out rfl
  have DS := Lib.hid (rdesig_calls ⟨2, pa, pl, ad, iarea, cost, prio, hel, dead, true, dr, bdr, el, nh, na, nn, nc⟩ nb rt W5 (INd.out.below R5.out.bel).nb ASd.out)
  have E : Hid (lksOf rt ⟨⟨2, pa, pl, ad, iarea, cost, prio, hel, dead, true, dr, bdr, el, nh, na, nn, nc⟩, nb⟩ = match desigP rt ⟨⟨2, pa, pl, ad, iarea, cost, prio, hel, dead, true, dr, bdr, el, nh, na, nn, nc⟩, nb⟩ with | some a => [⟨2, a, ad, cost⟩] | none => [stubL ⟨2, pa, pl, ad, iarea, cost, prio, hel, dead, true, dr, bdr, el, nh, na, nn, nc⟩]) := Lib.hid rfl
  simp only [ifE] at DS
  clear INd ASd x0 x4 x9
  obtain ⟨⟨⟨x0, x1, x2, x3, x4⟩, ⟨x5, x6, x7, x8, x9⟩, ⟨x10, x11, x12, x13, x14⟩⟩, -⟩ := blk15 b5.out
  go_upto_region 17 with fail
  go_wp2_with fail
  refine DS.out.mono ?_
  rintro e w6 ⟨a2, ok, rfl, hd, B6⟩
  have R6 := Lib.hid (R5.out.grow B6)
  have b6 := Lib.hid ((B6.block _ (blk_lt b5.out)).trans b5.out)
  clear x0 x1 x2 x3 x4 x5 x6 x7 x8 x9 x10 x11 x12 x13 x14 DS B6 R5 b5
  rw [hd] at E
  cases ok with
  | true =>
    have E2 : Hid (lksOf rt ⟨⟨2, pa, pl, ad, iarea, cost, prio, hel, dead, true, dr, bdr, el, nh, na, nn, nc⟩, nb⟩ = [⟨2, a2, ad, cost⟩]) := Lib.hid E.out
    rw [E2.out] at HQ LN1
    have LKN : Hid (lk.length ≤ 4194304) := Lib.hid (by have h1 := R6.out.len; have h2 := LN1.out; (try simp only [List.length_cons, List.length_nil] at h2); omega)
    have AD := Lib.hid (fun W (hb : Below w6.heap.size w6 W) => radd_calls W (.slice a lk.length c) lk (R6.out.lat.below hb) LKN.out ⟨2, a2, ad, cost⟩)
    simp only [lnkE] at AD
    have v9 : w6.cell? ⟨b, 9, none⟩ = some (.slice a lk.length c) := blk_cell R6.out.bk rfl
    have x3 : w6.cell? ⟨WO.heap.size, 3, none⟩ = some (.int .u32 ad) := blk_cell b6.out rfl
    have x5 : w6.cell? ⟨WO.heap.size, 5, none⟩ = some (.int .i64 cost) := blk_cell b6.out rfl
    clear E E2 LN1 hd
    go_upto_region 19 with fail
    go_wp2_with fail
    refine (AD.out _ (Below.refl _ _)).mono ?_
    rintro e w8 ⟨v8, rfl, A8, F8, B8⟩
    obtain ⟨a8, c8, hv8, R8⟩ := R6.out.put B8 A8 F8
    subst hv8
    have f9 := blk_free ((R6.out.grow B8).bk) 9
    have u9 : w8.cell? ⟨b, 9, none⟩ = some (.slice a lk.length c) := blk_cell ((R6.out.grow B8).bk) rfl
    have NX := Lib.hid (R8.same (L' := LK ++ [⟨2, a2, ad, cost⟩]) (fun _ => Iff.rfl) (Nat.le_refl _))
    clear A8 F8 B8 R8 AD
    go_wp2_with fail
    exact HQ.out _ _ _ _ _ _ _ _ _ _ _ _ _ _ _ _ _ _ _ _ _ _ _ _ _ _ _ _ _ _ _ _ _ _ _ _ _ _ _ _ _ _ _ _ _ _ _ _ _ _ _ _ _ _ _ _ _ _ _ _ _ _ _ _ _ _ _ _ _ _ _ _ _ _ _ _ _ _ _ _ _ _ _ _ _ _ _ _ _ _ _ _ _ _ _ _ _ _ _ _ _ _ _ _ _ _ _ _ _ _ _ (by go_num) NX.out
  | false =>
    have E2 : Hid (lksOf rt ⟨⟨2, pa, pl, ad, iarea, cost, prio, hel, dead, true, dr, bdr, el, nh, na, nn, nc⟩, nb⟩ = [stubL ⟨2, pa, pl, ad, iarea, cost, prio, hel, dead, true, dr, bdr, el, nh, na, nn, nc⟩]) := Lib.hid E.out
    rw [E2.out] at HQ LN1
    have LKN : Hid (lk.length ≤ 4194304) := Lib.hid (by have h1 := R6.out.len; have h2 := LN1.out; (try simp only [List.length_cons, List.length_nil] at h2); omega)
    clear E E2 LN1 hd
    go_upto_region 20 with fail
    have SB := Lib.hid (fun W => rstub_calls ⟨2, pa, pl, ad, iarea, cost, prio, hel, dead, true, dr, bdr, el, nh, na, nn, nc⟩ W OKd.out.p0 (by have := OKd.out.p1; simp only at this ⊢; omega))
    have AD := Lib.hid (fun W (hb : Below w6.heap.size w6 W) => radd_calls W (.slice a lk.length c) lk (R6.out.lat.below hb) LKN.out (stubL ⟨2, pa, pl, ad, iarea, cost, prio, hel, dead, true, dr, bdr, el, nh, na, nn, nc⟩))
    simp only [ifcE] at SB
    simp only [stubL, lnkE] at SB AD
    have v9 : w6.cell? ⟨b, 9, none⟩ = some (.slice a lk.length c) := blk_cell R6.out.bk rfl
    obtain ⟨⟨⟨x0, x1, x2, x3, x4⟩, ⟨x5, x6, x7, x8, x9⟩, ⟨x10, x11, x12, x13, x14⟩⟩, -⟩ := blk15 b6.out
    clear x9 x10 x11 x12 x13 x14
    have fb9 := blk_free R6.out.bk 9
    go_region_law
      (first
      | (go_simp; go_at_call 47; (with_reducible refine (SB.out _).mono ?_); rintro e w7 ⟨rfl, B7⟩; have BB7 : Hid (Below w6.heap.size w6 w7) := Lib.hid (by first | exact ((Below.refl _ _).drew).trans B7 | exact B7); have s9 : w7.cell? ⟨b, 9, none⟩ = some (.slice a lk.length c) := bcell BB7.out v9; have t0 := bcell BB7.out x0; have t1 := bcell BB7.out x1; have t2 := bcell BB7.out x2; have t3 := bcell BB7.out x3; have t4 := bcell BB7.out x4; have t5 := bcell BB7.out x5; have t6 := bcell BB7.out x6; have t7 := bcell BB7.out x7; have t8 := bcell BB7.out x8; clear B7)
      | (go_simp; go_at_call 46; (with_reducible refine (AD.out _ (by first | exact BB7.out | exact BB7.out.drew)).mono ?_); rintro e w8 ⟨v8, rfl, A8, F8, B8⟩; obtain ⟨a8, c8, hv8, R8⟩ := R6.out.put (BB7.out.trans (B8.mono BB7.out.size)) A8 (F8.mono BB7.out.size); subst hv8; have f9 := blk_free (((R6.out.grow (BB7.out.trans (B8.mono BB7.out.size)))).bk) 9; have HR8 := Lib.hid R8; have BB8 := BB7.out.trans (B8.mono BB7.out.size); have u9 := bcell BB8 v9; have u0 := bcell BB8 x0; have u1 := bcell BB8 x1; have u2 := bcell BB8 x2; have u3 := bcell BB8 x3; have u4 := bcell BB8 x4; have u5 := bcell BB8 x5; have u6 := bcell BB8 x6; have u7 := bcell BB8 x7; have u8 := bcell BB8 x8; clear A8 F8 B8 R8 BB8))
    all_goals
      have NX := Lib.hid (HR8.out.same (L' := LK ++ [stubL ⟨2, pa, pl, ad, iarea, cost, prio, hel, dead, true, dr, bdr, el, nh, na, nn, nc⟩]) (fun _ => Iff.rfl) (Nat.le_refl _))
      clear HR8 SB AD BB7 R6 b6
      go_wp2_with fail
      exact HQ.out _ _ _ _ _ _ _ _ _ _ _ _ _ _ _ _ _ _ _ _ _ _ _ _ _ _ _ _ _ _ _ _ _ _ _ _ _ _ _ _ _ _ _ _ _ _ _ _ _ _ _ _ _ _ _ _ _ _ _ _ _ _ _ _ _ _ _ _ _ _ _ _ _ _ _ _ _ _ _ _ _ _ _ _ _ _ _ _ _ _ _ _ _ _ _ _ _ _ _ _ _ _ _ _ _ _ _ _ _ _ _ (by go_num) NX.out


end Go.Proofs.YtddageahmgaigaaGreat

namespace Go.Proofs.YtddageahmgaigaaGreat
open Go.RowKit

set_option maxHeartbeats 16000000 in
set_option maxRecDepth 100000 in
theorem rr_kind3 {cia cra ara exa ana na : Option Addr} {cin cic crn crc arn arc exn exc ann anc b1 o1 n c1 b nn nc k : Nat} {now rt pa pl ad iarea cost prio hel dead dr bdr el nh : Int} {bo ba : Bool} {LK : List Lnk} {nb : List Nb} {a : Option Addr} {c : Nat} {lk : List Lnk} (NX KX : Act → World → Prop) (PO : Ending → World → Prop) (w WO : World) (R0 : RrS w #[.int .u32 rt, .slice cia cin cic, .slice cra crn crc, .int .i64 now, .slice (some ⟨b1, o1, none⟩) n c1, .slice ara arn arc, .slice exa exn exc, .slice ana ann anc] b (rtL rt bo ba) (LK) a c lk WO) (CE : IfC WO b1 (o1 + k * 15) ⟨3, pa, pl, ad, iarea, cost, prio, hel, dead, true, dr, bdr, el, nh, na, nn, nc⟩) (hk : k < n) (hn : n ≤ 9223372036854775807)
    (ok : IfOk ⟨⟨3, pa, pl, ad, iarea, cost, prio, hel, dead, true, dr, bdr, el, nh, na, nn, nc⟩, nb⟩) (asd : nb.Pairwise fun a b => a.r < b.r) (ind : IfIn w ⟨⟨3, pa, pl, ad, iarea, cost, prio, hel, dead, true, dr, bdr, el, nh, na, nn, nc⟩, nb⟩) (ln : LK.length + (lksOf rt ⟨⟨3, pa, pl, ad, iarea, cost, prio, hel, dead, true, dr, bdr, el, nh, na, nn, nc⟩, nb⟩).length ≤ 4194304) (u0 u3 u8 u9 u10 u11 u12 u13 u14 u15 u16 u17 u18 u19 u20 u21 u22 u23 u24 u25 u26 u27 u28 u29 u30 u31 u32 u33 u34 u35 u36 u37 u38 u39 u40 u41 u42 u43 u44 u45 u46 u47 u48 u49 u50 u51 u52 u53 u54 u55 u56 u57 u58 u59 u60 u61 u62 u63 u64 u65 u66 u67 u68 u69 u70 u71 u72 u73 u74 u75 u76 u77 u78 u79 u80 u81 u82 u83 u84 u85 u86 u87 u88 u89 u90 u91 u92 u93 u94 u95 u96 u97 u98 u99 u100 u101 u102 u103 u104 u105 u106 u107 u108 u109 u110 u111 u112 u113 u114 u115 u116 u117 u118 u119 u120 u121 u122 u123 u124 u125 u126 u127 u128 : Value)
    (HQ0 : ∀ (v7 v8 v9 v10 v11 v26 v27 v28 v29 v30 v31 v32 v33 v34 v35 v36 v37 v38 v39 v40 v41 v42 v43 v44 v45 v46 v47 v48 v49 v50 v51 v52 v53 v54 v55 v56 v57 v58 v59 v60 v61 v62 v63 v64 v65 v66 v67 v68 v69 v70 v71 v72 v73 v74 v75 v76 v77 v78 v79 v80 v81 v82 v83 v84 v85 v86 v87 v88 v89 v90 v91 v92 v93 v94 v95 v96 v97 v98 v99 v100 v101 v102 v103 v104 v105 v106 v107 v108 v109 v110 v111 v112 v113 v114 v115 v116 v117 v118 v119 v120 v121 v122 v123 v124 v125 v126 v127 : Value) (a : Option Addr) (c : Nat) (lk : List Lnk) (w' : World), v7 = .int .i64 ((k + 1 : Nat) : Int) → RrS w #[.int .u32 rt, .slice cia cin cic, .slice cra crn crc, .int .i64 now, .slice (some ⟨b1, o1, none⟩) n c1, .slice ara arn arc, .slice exa exn exc, .slice ana ann anc] b (rtL rt bo ba) (LK ++ lksOf rt ⟨⟨3, pa, pl, ad, iarea, cost, prio, hel, dead, true, dr, bdr, el, nh, na, nn, nc⟩, nb⟩) a c lk w' → NX ⟨#[u0, .int .u32 iarea, .pointer (some ⟨w.heap.size, 0, none⟩), u3, .pointer (some ⟨w.heap.size + 1, 0, none⟩), .int .u32 rt, .pointer (some ⟨b, 0, none⟩), v7, v8, v9, v10, v11, u12, u13, u14, u15, u16, u17, u18, u19, u20, u21, u22, u23, u24, u25, v26, v27, v28, v29, v30, v31, v32, v33, v34, v35, v36, v37, v38, v39, v40, v41, v42, v43, v44, v45, v46, v47, v48, v49, v50, v51, v52, v53, v54, v55, v56, v57, v58, v59, v60, v61, v62, v63, v64, v65, v66, v67, v68, v69, v70, v71, v72, v73, v74, v75, v76, v77, v78, v79, v80, v81, v82, v83, v84, v85, v86, v87, v88, v89, v90, v91, v92, v93, v94, v95, v96, v97, v98, v99, v100, v101, v102, v103, v104, v105, v106, v107, v108, v109, v110, v111, v112, v113, v114, v115, v116, v117, v118, v119, v120, v121, v122, v123, v124, v125, v126, v127, u128], []⟩ w') :
    Code.wp Tryz.prog rrBody (Exit.then NX (Exit.inBlock 0 (Exit.then KX (bodyPost Tryz.prog Tryz.f15 PO)))) ⟨#[u0, .int .u32 iarea, .pointer (some ⟨w.heap.size, 0, none⟩), u3, .pointer (some ⟨w.heap.size + 1, 0, none⟩), .int .u32 rt, .pointer (some ⟨b, 0, none⟩), .int .i64 (k : Int), u8, u9, u10, u11, u12, u13, u14, u15, u16, u17, u18, u19, u20, u21, u22, u23, u24, u25, u26, u27, u28, u29, u30, u31, u32, u33, u34, u35, u36, u37, u38, u39, u40, u41, u42, u43, u44, u45, u46, u47, u48, u49, u50, u51, u52, u53, u54, u55, u56, u57, u58, u59, u60, u61, u62, u63, u64, u65, u66, u67, u68, u69, u70, u71, u72, u73, u74, u75, u76, u77, u78, u79, u80, u81, u82, u83, u84, u85, u86, u87, u88, u89, u90, u91, u92, u93, u94, u95, u96, u97, u98, u99, u100, u101, u102, u103, u104, u105, u106, u107, u108, u109, u110, u111, u112, u113, u114, u115, u116, u117, u118, u119, u120, u121, u122, u123, u124, u125, u126, u127, u128], []⟩ WO := by
  conv => arg 2; whnf
  have HQ := Lib.hid HQ0
  have OKd := Lib.hid ok
  have ASd := Lib.hid asd
  have INd := Lib.hid ind
  have LN1 := Lib.hid ln
  have R := Lib.hid R0
  have KC := Lib.hid hk
  have mixed : Tryz.prog.follows .mixedOrders = true := by kernel_rfl
  have y4 : WO.cell? ⟨w.heap.size, 4, none⟩ = some (.slice (some ⟨b1, o1, none⟩) n c1) := blk_cell R.out.sx rfl
  obtain ⟨⟨d0, d1, d2, d3, d4⟩, ⟨d5, d6, d7, d8, d9⟩, ⟨d10, d11, d12, d13, d14⟩⟩ := CE
  have i0 : (0 : Int) ≤ (k : Int) := by omega
  have i1 : (k : Int) < (n : Int) := by omega
  have s3 : ((k : Int)).toNat = k := by omega
  clear HQ0 ok asd ind ln R0 hk
  simp only at d0 d1 d2 d3 d4 d5 d6 d7 d8 d9 d10 d11 d12 d13 d14
  go_upto_region 7 with fail
  generalize hW5 : WO.alloc _ = W5
  have B5 : Below WO.heap.size WO W5 := by rw [← hW5]; exact (Below.refl _ _).alloc (Nat.le_refl _) _
  have b5 : Hid (W5.heap[WO.heap.size]? = some (.cells #[.int .i64 3, .int .u32 pa, .int .i64 pl, .int .u32 ad, .int .u32 iarea, .int .i64 cost, .int .i64 prio, .int .i64 hel, .int .i64 dead, .bool true, .int .u32 dr, .int .u32 bdr, .int .i64 el, .int .i64 nh, .slice na nn nc] 69 (0, 0))) := Lib.hid (by rw [← hW5]; exact alloc_new _ _)
  have R5 := Lib.hid (R.out.grow B5)
  have NEB : Hid (WO.heap.size ≠ b) := Lib.hid (by have := blk_lt R.out.bk; omega)
  have x4 : W5.cell? ⟨WO.heap.size, 4, none⟩ = some (.int .u32 iarea) := blk_cell b5.out rfl
  have x9 : W5.cell? ⟨WO.heap.size, 9, none⟩ = some (.bool true) := blk_cell b5.out rfl
  clear hW5 B5 d0 d1 d2 d3 d4 d5 d6 d7 d8 d9 d10 d11 d12 d13 d14 R y4
  go_upto_region 8 with fail
  have x0 : W5.cell? ⟨WO.heap.size, 0, none⟩ = some (.int .i64 3) := blk_cell b5.out rfl
  have E := Lib.hid (show lksOf rt ⟨⟨3, pa, pl, ad, iarea, cost, prio, hel, dead, true, dr, bdr, el, nh, na, nn, nc⟩, nb⟩ = [stubL ⟨3, pa, pl, ad, iarea, cost, prio, hel, dead, true, dr, bdr, el, nh, na, nn, nc⟩] from rfl)
  have LKN : Hid (lk.length ≤ 4194304) := Lib.hid (by have h1 := R5.out.len; have h2 := LN1.out; (try simp only [List.length_append, List.length_cons, List.length_nil] at h2); omega)
  rw [E.out] at HQ LN1
  clear E INd ASd
  go_upto_region 22 with fail
  clear x0 x4 x9
  have SB := Lib.hid (fun W => rstub_calls ⟨3, pa, pl, ad, iarea, cost, prio, hel, dead, true, dr, bdr, el, nh, na, nn, nc⟩ W OKd.out.p0 (by have := OKd.out.p1; simp only at this ⊢; omega))
  have AD := Lib.hid (fun W (hb : Below W5.heap.size W5 W) => radd_calls W (.slice a lk.length c) lk (R5.out.lat.below hb) LKN.out (stubL ⟨3, pa, pl, ad, iarea, cost, prio, hel, dead, true, dr, bdr, el, nh, na, nn, nc⟩))
  simp only [ifcE] at SB
  simp only [stubL, lnkE] at SB AD
  have v9 : W5.cell? ⟨b, 9, none⟩ = some (.slice a lk.length c) := blk_cell R5.out.bk rfl
  obtain ⟨⟨⟨x0, x1, x2, x3, x4⟩, ⟨x5, x6, x7, x8, x9⟩, ⟨x10, x11, x12, x13, x14⟩⟩, -⟩ := blk15 b5.out
  clear x9 x10 x11 x12 x13 x14
  have fb9 := blk_free R5.out.bk 9
  go_region_law
    (first
    | (go_simp; go_at_call 47; (with_reducible refine (SB.out _).mono ?_); rintro e w7 ⟨rfl, B7⟩; have BB7 : Hid (Below W5.heap.size W5 w7) := Lib.hid (by first | exact ((Below.refl _ _).drew).trans B7 | exact B7); have s9 : w7.cell? ⟨b, 9, none⟩ = some (.slice a lk.length c) := bcell BB7.out v9; have t0 := bcell BB7.out x0; have t1 := bcell BB7.out x1; have t2 := bcell BB7.out x2; have t3 := bcell BB7.out x3; have t4 := bcell BB7.out x4; have t5 := bcell BB7.out x5; have t6 := bcell BB7.out x6; have t7 := bcell BB7.out x7; have t8 := bcell BB7.out x8; clear B7)
    | (go_simp; go_at_call 46; (with_reducible refine (AD.out _ (by first | exact BB7.out | exact BB7.out.drew)).mono ?_); rintro e w8 ⟨v8, rfl, A8, F8, B8⟩; obtain ⟨a8, c8, hv8, R8⟩ := R5.out.put (BB7.out.trans (B8.mono BB7.out.size)) A8 (F8.mono BB7.out.size); subst hv8; have f9 := blk_free (((R5.out.grow (BB7.out.trans (B8.mono BB7.out.size)))).bk) 9; have HR8 := Lib.hid R8; have BB8 := BB7.out.trans (B8.mono BB7.out.size); have u9 := bcell BB8 v9; have u0 := bcell BB8 x0; have u1 := bcell BB8 x1; have u2 := bcell BB8 x2; have u3 := bcell BB8 x3; have u4 := bcell BB8 x4; have u5 := bcell BB8 x5; have u6 := bcell BB8 x6; have u7 := bcell BB8 x7; have u8 := bcell BB8 x8; clear A8 F8 B8 R8 BB8))
  all_goals
    have NX := Lib.hid (HR8.out.same (L' := LK ++ [stubL ⟨3, pa, pl, ad, iarea, cost, prio, hel, dead, true, dr, bdr, el, nh, na, nn, nc⟩]) (fun _ => Iff.rfl) (Nat.le_refl _))
    clear HR8 SB AD BB7 R5 b5
    go_wp2_with fail
    exact HQ.out _ _ _ _ _ _ _ _ _ _ _ _ _ _ _ _ _ _ _ _ _ _ _ _ _ _ _ _ _ _ _ _ _ _ _ _ _ _ _ _ _ _ _ _ _ _ _ _ _ _ _ _ _ _ _ _ _ _ _ _ _ _ _ _ _ _ _ _ _ _ _ _ _ _ _ _ _ _ _ _ _ _ _ _ _ _ _ _ _ _ _ _ _ _ _ _ _ _ _ _ _ _ _ _ _ _ _ _ _ _ _ (by go_num) NX.out


end Go.Proofs.YtddageahmgaigaaGreat
