/-
  routingref30.Router: the codes of its loops.
-/
/-
  routingref30.Router's round at an interface that is down or of another area.
-/
import Derived.Test.YtddageahmgaigaaGreatRrp
import Derived.Test.YtddageahmgaigaaGreatRae
import Derived.Test.YtddageahmgaigaaGreatRds
import Derived.Test.YtddageahmgaigaaGreatDsg
import Derived.Deep.DeepCutAuto
namespace Go.Proofs.YtddageahmgaigaaGreat
open Go.RowKit

/-- the first loop's body -/
def firstLoop : Code → Option Code
  | .loop c => some c
  | .seq a b => match firstLoop a with
    | some c => some c
    | none => firstLoop b
  | .block _ c => firstLoop c
  | .scope c => firstLoop c
  | .cond _ a b => match firstLoop a with
    | some c => some c
    | none => firstLoop b
  | _ => none
noncomputable def rrBody : Code := ((Tryz.f15.body.bind firstLoop).getD .skip)
noncomputable def rrIn : Code := ((firstLoop rrBody).getD .skip)

end Go.Proofs.YtddageahmgaigaaGreat

namespace Go.Proofs.YtddageahmgaigaaGreat
open Go.RowKit

set_option maxHeartbeats 16000000 in
set_option maxRecDepth 100000 in
theorem rr_down {cia cra ara exa ana na : Option Addr} {cin cic crn crc arn arc exn exc ann anc b1 o1 n c1 b nn nc k : Nat} {now rt pa pl ad iarea jarea kind cost prio hel dead dr bdr el nh : Int} {bo ba : Bool} {LK : List Lnk} {a : Option Addr} {c : Nat} {lk : List Lnk} (NX KX : Act → World → Prop) (PO : Ending → World → Prop) (w WO : World) (R0 : RrS w #[.int .u32 rt, .slice cia cin cic, .slice cra crn crc, .int .i64 now, .slice (some ⟨b1, o1, none⟩) n c1, .slice ara arn arc, .slice exa exn exc, .slice ana ann anc] b (rtL rt bo ba) (LK) a c lk WO) (CE : IfC WO b1 (o1 + k * 15) ⟨kind, pa, pl, ad, jarea, cost, prio, hel, dead, false, dr, bdr, el, nh, na, nn, nc⟩) (hk : k < n) (hn : n ≤ 9223372036854775807) (u0 u3 u8 u9 u10 u11 u12 u13 u14 u15 u16 u17 u18 u19 u20 u21 u22 u23 u24 u25 u26 u27 u28 u29 u30 u31 u32 u33 u34 u35 u36 u37 u38 u39 u40 u41 u42 u43 u44 u45 u46 u47 u48 u49 u50 u51 u52 u53 u54 u55 u56 u57 u58 u59 u60 u61 u62 u63 u64 u65 u66 u67 u68 u69 u70 u71 u72 u73 u74 u75 u76 u77 u78 u79 u80 u81 u82 u83 u84 u85 u86 u87 u88 u89 u90 u91 u92 u93 u94 u95 u96 u97 u98 u99 u100 u101 u102 u103 u104 u105 u106 u107 u108 u109 u110 u111 u112 u113 u114 u115 u116 u117 u118 u119 u120 u121 u122 u123 u124 u125 u126 u127 u128 : Value)
    (HQ0 : ∀ (v7 v8 v9 v10 v11 v26 v27 v28 v29 v30 v31 v32 v33 v34 v35 v36 v37 v38 v39 v40 v41 v42 v43 v44 v45 v46 v47 v48 v49 v50 v51 v52 v53 v54 v55 v56 v57 v58 v59 v60 v61 v62 v63 v64 v65 v66 v67 v68 v69 v70 v71 v72 v73 v74 v75 v76 v77 v78 v79 v80 v81 v82 v83 v84 v85 v86 v87 v88 v89 v90 v91 v92 v93 v94 v95 v96 v97 v98 v99 v100 v101 v102 v103 v104 v105 v106 v107 v108 v109 v110 v111 v112 v113 v114 v115 v116 v117 v118 v119 v120 v121 v122 v123 v124 v125 v126 v127 : Value) (a : Option Addr) (c : Nat) (lk : List Lnk) (w' : World), v7 = .int .i64 ((k + 1 : Nat) : Int) → RrS w #[.int .u32 rt, .slice cia cin cic, .slice cra crn crc, .int .i64 now, .slice (some ⟨b1, o1, none⟩) n c1, .slice ara arn arc, .slice exa exn exc, .slice ana ann anc] b (rtL rt bo ba) (LK) a c lk w' → NX ⟨#[u0, .int .u32 iarea, .pointer (some ⟨w.heap.size, 0, none⟩), u3, .pointer (some ⟨w.heap.size + 1, 0, none⟩), .int .u32 rt, .pointer (some ⟨b, 0, none⟩), v7, v8, v9, v10, v11, u12, u13, u14, u15, u16, u17, u18, u19, u20, u21, u22, u23, u24, u25, v26, v27, v28, v29, v30, v31, v32, v33, v34, v35, v36, v37, v38, v39, v40, v41, v42, v43, v44, v45, v46, v47, v48, v49, v50, v51, v52, v53, v54, v55, v56, v57, v58, v59, v60, v61, v62, v63, v64, v65, v66, v67, v68, v69, v70, v71, v72, v73, v74, v75, v76, v77, v78, v79, v80, v81, v82, v83, v84, v85, v86, v87, v88, v89, v90, v91, v92, v93, v94, v95, v96, v97, v98, v99, v100, v101, v102, v103, v104, v105, v106, v107, v108, v109, v110, v111, v112, v113, v114, v115, v116, v117, v118, v119, v120, v121, v122, v123, v124, v125, v126, v127, u128], []⟩ w') :
    Code.wp Tryz.prog rrBody (Exit.then NX (Exit.inBlock 0 (Exit.then KX (bodyPost Tryz.prog Tryz.f15 PO)))) ⟨#[u0, .int .u32 iarea, .pointer (some ⟨w.heap.size, 0, none⟩), u3, .pointer (some ⟨w.heap.size + 1, 0, none⟩), .int .u32 rt, .pointer (some ⟨b, 0, none⟩), .int .i64 (k : Int), u8, u9, u10, u11, u12, u13, u14, u15, u16, u17, u18, u19, u20, u21, u22, u23, u24, u25, u26, u27, u28, u29, u30, u31, u32, u33, u34, u35, u36, u37, u38, u39, u40, u41, u42, u43, u44, u45, u46, u47, u48, u49, u50, u51, u52, u53, u54, u55, u56, u57, u58, u59, u60, u61, u62, u63, u64, u65, u66, u67, u68, u69, u70, u71, u72, u73, u74, u75, u76, u77, u78, u79, u80, u81, u82, u83, u84, u85, u86, u87, u88, u89, u90, u91, u92, u93, u94, u95, u96, u97, u98, u99, u100, u101, u102, u103, u104, u105, u106, u107, u108, u109, u110, u111, u112, u113, u114, u115, u116, u117, u118, u119, u120, u121, u122, u123, u124, u125, u126, u127, u128], []⟩ WO := by
  conv => arg 2; whnf
  have HQ := Lib.hid HQ0
  have R := Lib.hid R0
  have KC := Lib.hid hk
  have mixed : Tryz.prog.follows .mixedOrders = true := by kernel_rfl
  have y4 : WO.cell? ⟨w.heap.size, 4, none⟩ = some (.slice (some ⟨b1, o1, none⟩) n c1) := blk_cell R.out.sx rfl
  obtain ⟨⟨d0, d1, d2, d3, d4⟩, ⟨d5, d6, d7, d8, d9⟩, ⟨d10, d11, d12, d13, d14⟩⟩ := CE
  have i0 : (0 : Int) ≤ (k : Int) := by omega
  have i1 : (k : Int) < (n : Int) := by omega
  have s3 : ((k : Int)).toNat = k := by omega
  clear HQ0 R0 hk
  simp only at d0 d1 d2 d3 d4 d5 d6 d7 d8 d9 d10 d11 d12 d13 d14
  go_upto_region 7 with fail
  generalize hW5 : WO.alloc _ = W5
  have B5 : Below WO.heap.size WO W5 := by rw [← hW5]; exact (Below.refl _ _).alloc (Nat.le_refl _) _
  have b5 : Hid (W5.heap[WO.heap.size]? = some (.cells #[.int .i64 kind, .int .u32 pa, .int .i64 pl, .int .u32 ad, .int .u32 jarea, .int .i64 cost, .int .i64 prio, .int .i64 hel, .int .i64 dead, .bool false, .int .u32 dr, .int .u32 bdr, .int .i64 el, .int .i64 nh, .slice na nn nc] 69 (0, 0))) := Lib.hid (by rw [← hW5]; exact alloc_new _ _)
  have R5 := Lib.hid (R.out.grow B5)
  have NEB : Hid (WO.heap.size ≠ b) := Lib.hid (by have := blk_lt R.out.bk; omega)
  have x4 : W5.cell? ⟨WO.heap.size, 4, none⟩ = some (.int .u32 jarea) := blk_cell b5.out rfl
  have x9 : W5.cell? ⟨WO.heap.size, 9, none⟩ = some (.bool false) := blk_cell b5.out rfl
  clear hW5 B5 d0 d1 d2 d3 d4 d5 d6 d7 d8 d9 d10 d11 d12 d13 d14 R y4
  go_wp2_with fail
  exact HQ.out _ _ _ _ _ _ _ _ _ _ _ _ _ _ _ _ _ _ _ _ _ _ _ _ _ _ _ _ _ _ _ _ _ _ _ _ _ _ _ _ _ _ _ _ _ _ _ _ _ _ _ _ _ _ _ _ _ _ _ _ _ _ _ _ _ _ _ _ _ _ _ _ _ _ _ _ _ _ _ _ _ _ _ _ _ _ _ _ _ _ _ _ _ _ _ _ _ _ _ _ _ _ _ _ _ _ _ _ _ _ _ (by go_num) R5.out

set_option maxHeartbeats 16000000 in
set_option maxRecDepth 100000 in
theorem rr_other {cia cra ara exa ana na : Option Addr} {cin cic crn crc arn arc exn exc ann anc b1 o1 n c1 b nn nc k : Nat} {now rt pa pl ad iarea jarea kind cost prio hel dead dr bdr el nh : Int} {bo ba : Bool} {LK : List Lnk} {a : Option Addr} {c : Nat} {lk : List Lnk} (NX KX : Act → World → Prop) (PO : Ending → World → Prop) (w WO : World) (R0 : RrS w #[.int .u32 rt, .slice cia cin cic, .slice cra crn crc, .int .i64 now, .slice (some ⟨b1, o1, none⟩) n c1, .slice ara arn arc, .slice exa exn exc, .slice ana ann anc] b (rtL rt bo ba) (LK) a c lk WO) (CE : IfC WO b1 (o1 + k * 15) ⟨kind, pa, pl, ad, jarea, cost, prio, hel, dead, true, dr, bdr, el, nh, na, nn, nc⟩) (hk : k < n) (hn : n ≤ 9223372036854775807) (q : jarea ≠ iarea) (u0 u3 u8 u9 u10 u11 u12 u13 u14 u15 u16 u17 u18 u19 u20 u21 u22 u23 u24 u25 u26 u27 u28 u29 u30 u31 u32 u33 u34 u35 u36 u37 u38 u39 u40 u41 u42 u43 u44 u45 u46 u47 u48 u49 u50 u51 u52 u53 u54 u55 u56 u57 u58 u59 u60 u61 u62 u63 u64 u65 u66 u67 u68 u69 u70 u71 u72 u73 u74 u75 u76 u77 u78 u79 u80 u81 u82 u83 u84 u85 u86 u87 u88 u89 u90 u91 u92 u93 u94 u95 u96 u97 u98 u99 u100 u101 u102 u103 u104 u105 u106 u107 u108 u109 u110 u111 u112 u113 u114 u115 u116 u117 u118 u119 u120 u121 u122 u123 u124 u125 u126 u127 u128 : Value)
    (HQ0 : ∀ (v7 v8 v9 v10 v11 v26 v27 v28 v29 v30 v31 v32 v33 v34 v35 v36 v37 v38 v39 v40 v41 v42 v43 v44 v45 v46 v47 v48 v49 v50 v51 v52 v53 v54 v55 v56 v57 v58 v59 v60 v61 v62 v63 v64 v65 v66 v67 v68 v69 v70 v71 v72 v73 v74 v75 v76 v77 v78 v79 v80 v81 v82 v83 v84 v85 v86 v87 v88 v89 v90 v91 v92 v93 v94 v95 v96 v97 v98 v99 v100 v101 v102 v103 v104 v105 v106 v107 v108 v109 v110 v111 v112 v113 v114 v115 v116 v117 v118 v119 v120 v121 v122 v123 v124 v125 v126 v127 : Value) (a : Option Addr) (c : Nat) (lk : List Lnk) (w' : World), v7 = .int .i64 ((k + 1 : Nat) : Int) → RrS w #[.int .u32 rt, .slice cia cin cic, .slice cra crn crc, .int .i64 now, .slice (some ⟨b1, o1, none⟩) n c1, .slice ara arn arc, .slice exa exn exc, .slice ana ann anc] b (rtL rt bo ba) (LK) a c lk w' → NX ⟨#[u0, .int .u32 iarea, .pointer (some ⟨w.heap.size, 0, none⟩), u3, .pointer (some ⟨w.heap.size + 1, 0, none⟩), .int .u32 rt, .pointer (some ⟨b, 0, none⟩), v7, v8, v9, v10, v11, u12, u13, u14, u15, u16, u17, u18, u19, u20, u21, u22, u23, u24, u25, v26, v27, v28, v29, v30, v31, v32, v33, v34, v35, v36, v37, v38, v39, v40, v41, v42, v43, v44, v45, v46, v47, v48, v49, v50, v51, v52, v53, v54, v55, v56, v57, v58, v59, v60, v61, v62, v63, v64, v65, v66, v67, v68, v69, v70, v71, v72, v73, v74, v75, v76, v77, v78, v79, v80, v81, v82, v83, v84, v85, v86, v87, v88, v89, v90, v91, v92, v93, v94, v95, v96, v97, v98, v99, v100, v101, v102, v103, v104, v105, v106, v107, v108, v109, v110, v111, v112, v113, v114, v115, v116, v117, v118, v119, v120, v121, v122, v123, v124, v125, v126, v127, u128], []⟩ w') :
    Code.wp Tryz.prog rrBody (Exit.then NX (Exit.inBlock 0 (Exit.then KX (bodyPost Tryz.prog Tryz.f15 PO)))) ⟨#[u0, .int .u32 iarea, .pointer (some ⟨w.heap.size, 0, none⟩), u3, .pointer (some ⟨w.heap.size + 1, 0, none⟩), .int .u32 rt, .pointer (some ⟨b, 0, none⟩), .int .i64 (k : Int), u8, u9, u10, u11, u12, u13, u14, u15, u16, u17, u18, u19, u20, u21, u22, u23, u24, u25, u26, u27, u28, u29, u30, u31, u32, u33, u34, u35, u36, u37, u38, u39, u40, u41, u42, u43, u44, u45, u46, u47, u48, u49, u50, u51, u52, u53, u54, u55, u56, u57, u58, u59, u60, u61, u62, u63, u64, u65, u66, u67, u68, u69, u70, u71, u72, u73, u74, u75, u76, u77, u78, u79, u80, u81, u82, u83, u84, u85, u86, u87, u88, u89, u90, u91, u92, u93, u94, u95, u96, u97, u98, u99, u100, u101, u102, u103, u104, u105, u106, u107, u108, u109, u110, u111, u112, u113, u114, u115, u116, u117, u118, u119, u120, u121, u122, u123, u124, u125, u126, u127, u128], []⟩ WO := by
  conv => arg 2; whnf
  have HQ := Lib.hid HQ0
  have R := Lib.hid R0
  have KC := Lib.hid hk
  have mixed : Tryz.prog.follows .mixedOrders = true := by kernel_rfl
  have y4 : WO.cell? ⟨w.heap.size, 4, none⟩ = some (.slice (some ⟨b1, o1, none⟩) n c1) := blk_cell R.out.sx rfl
  obtain ⟨⟨d0, d1, d2, d3, d4⟩, ⟨d5, d6, d7, d8, d9⟩, ⟨d10, d11, d12, d13, d14⟩⟩ := CE
  have i0 : (0 : Int) ≤ (k : Int) := by omega
  have i1 : (k : Int) < (n : Int) := by omega
  have s3 : ((k : Int)).toNat = k := by omega
  clear HQ0 R0 hk
  simp only at d0 d1 d2 d3 d4 d5 d6 d7 d8 d9 d10 d11 d12 d13 d14
  go_upto_region 7 with fail
  generalize hW5 : WO.alloc _ = W5
  have B5 : Below WO.heap.size WO W5 := by rw [← hW5]; exact (Below.refl _ _).alloc (Nat.le_refl _) _
  have b5 : Hid (W5.heap[WO.heap.size]? = some (.cells #[.int .i64 kind, .int .u32 pa, .int .i64 pl, .int .u32 ad, .int .u32 jarea, .int .i64 cost, .int .i64 prio, .int .i64 hel, .int .i64 dead, .bool true, .int .u32 dr, .int .u32 bdr, .int .i64 el, .int .i64 nh, .slice na nn nc] 69 (0, 0))) := Lib.hid (by rw [← hW5]; exact alloc_new _ _)
  have R5 := Lib.hid (R.out.grow B5)
  have NEB : Hid (WO.heap.size ≠ b) := Lib.hid (by have := blk_lt R.out.bk; omega)
  have x4 : W5.cell? ⟨WO.heap.size, 4, none⟩ = some (.int .u32 jarea) := blk_cell b5.out rfl
  have x9 : W5.cell? ⟨WO.heap.size, 9, none⟩ = some (.bool true) := blk_cell b5.out rfl
  clear hW5 B5 d0 d1 d2 d3 d4 d5 d6 d7 d8 d9 d10 d11 d12 d13 d14 R y4
  have q2 : (jarea != iarea) = true := by simpa using q
  clear q
  go_wp2_with fail
  exact HQ.out _ _ _ _ _ _ _ _ _ _ _ _ _ _ _ _ _ _ _ _ _ _ _ _ _ _ _ _ _ _ _ _ _ _ _ _ _ _ _ _ _ _ _ _ _ _ _ _ _ _ _ _ _ _ _ _ _ _ _ _ _ _ _ _ _ _ _ _ _ _ _ _ _ _ _ _ _ _ _ _ _ _ _ _ _ _ _ _ _ _ _ _ _ _ _ _ _ _ _ _ _ _ _ _ _ _ _ _ _ _ _ (by go_num) R5.out

end Go.Proofs.YtddageahmgaigaaGreat
