/-
  slices.Sort of []uint32: the scans of the partition.
-/
/-
  slices.Sort of []uint32: the partition's loop.
-/
/-
  slices.Sort of []uint32: the partition, the function.
-/
/-
  slices.Sort of []uint32: the loops of the partial insertion.
-/
/-
  slices.Sort of []uint32: the partial insertion.
-/
/-
  slices.Sort of []uint32: the breaking of patterns.
-/
/-
  slices.Sort of []uint32: one round of pdqsort, its values under names of their own (plain).
-/
/-
  slices.Sort of []uint32: pdqsort.
-/
/-
  slices.Sort of a row of uint32 of one's own.
-/
import Derived.Test.YtombnejipaoinaaGreatSoj
import Derived.Test.YtombnejipaoinaaGreatMem
import Derived.Test.YtombnejipaoinaaGreatWds
import Derived.Sort.WalkC4
import Derived.Sort.WalkA6
import Derived.Sort.Walk13a
import Derived.Sort.Walk7
import Derived.BigRegion
import Derived.Deep.DeepCutAuto
import Derived.Laws.Bits64b
import Derived.Shelf.SlSortCmp.Xorshift
import Derived.Ground.SlsfProg
import Derived.Sort.LotD4
import Derived.Sort.AssemblyPlain
import Derived.Deep.Cut
namespace Go.Proofs.YtombnejipaoinaaGreat
open Go.RowKit Go.Sort

noncomputable def ptBody (i : Nat) : Code := ((Tryz.f124.body.map outLoopsU).getD []).getD i .skip
noncomputable def ptIn (i : Nat) : Code := (outLoopsU (ptBody 2)).getD i .skip

set_option maxHeartbeats 16000000 in
set_option maxRecDepth 100000 in
theorem pt_up0 (Q : Exit → Act → World → Prop) (w WS : World) (blk off cap n a i j : Nat) (d0 dk : Array Int) (hH : Holds eU w blk off d0) (hs : d0.size = n) (hai : a < i) (hij : i ≤ j + 1) (hjn : j < n) (hsz : n < 4611686018427387904) (P : PutN w blk off n dk WS) (si sj : Value) (hsi : si = .int .i64 (i : Int)) (hsj : sj = .int .i64 (j : Int)) (u2 u3 u4 u5 u6 u7 u8 u9 u12 u13 u14 u15 u16 u17 u18 u19 u20 u21 u22 u23 u24 u25 u26 u27 u28 u29 u30 u31 u32 u33 u34 u35 u36 u37 u38 u39 u40 u41 u42 u43 u44 u45 u46 u47 u48 u49 u50 u51 u52 u53 u54 u55 u56 u57 u58 u59 u60 u61 u62 u63 u64 u65 u66 u67 u68 u69 u70 u71 u72 u73 u74 u75 u76 u77 u78 u79 u80 u81 u82 u83 u84 u85 u86 u87 u88 u89 u90 u91 u92 u93 u94 u95 u96 u97 u98 u99 u100 u101 u102 u103 u104 u105 u106 u107 u108 u109 u110 u111 u112 u113 u114 u115 u116 u117 u118 u119 u120 u121 u122 u123 u124 u125 u126 u127 u128 u129 u130 u131 u132 u133 u134 u135 u136 u137 u138 u139 u140 u141 u142 u143 u144 u145 u146 u147 u148 u149 u150 u151 u152 u153 u154 u155 u156 u157 u158 u159 u160 u161 u162 u163 u164 u165 u166 u167 : Value)
    (HQ0 : ∀ (v30 v31 v32 v33 v34 v35 v36 v37 v38 v39 v40 v41 v42 v43 v44 v45 : Value) (w' : World), PutN w blk off n dk w' → i ≤ scanUp (fun x => ltInt x dk[a]!) dk j i → scanUp (fun x => ltInt x dk[a]!) dk j i ≤ j + 1 → Q (.exit 0) ⟨#[.slice (some ⟨blk, off, none⟩) n cap, .int .i64 (a : Int), u2, u3, u4, u5, u6, u7, u8, u9, .int .i64 ((scanUp (fun x => ltInt x dk[a]!) dk j i : Nat) : Int), .int .i64 (j : Int), u12, u13, u14, u15, u16, u17, u18, u19, u20, u21, u22, u23, u24, u25, u26, u27, u28, u29, v30, v31, v32, v33, v34, v35, v36, v37, v38, v39, v40, v41, v42, v43, v44, v45, u46, u47, u48, u49, u50, u51, u52, u53, u54, u55, u56, u57, u58, u59, u60, u61, u62, u63, u64, u65, u66, u67, u68, u69, u70, u71, u72, u73, u74, u75, u76, u77, u78, u79, u80, u81, u82, u83, u84, u85, u86, u87, u88, u89, u90, u91, u92, u93, u94, u95, u96, u97, u98, u99, u100, u101, u102, u103, u104, u105, u106, u107, u108, u109, u110, u111, u112, u113, u114, u115, u116, u117, u118, u119, u120, u121, u122, u123, u124, u125, u126, u127, u128, u129, u130, u131, u132, u133, u134, u135, u136, u137, u138, u139, u140, u141, u142, u143, u144, u145, u146, u147, u148, u149, u150, u151, u152, u153, u154, u155, u156, u157, u158, u159, u160, u161, u162, u163, u164, u165, u166, u167], []⟩ w') :
    Code.wp Tryz.prog (.loop (ptBody 0)) Q ⟨#[.slice (some ⟨blk, off, none⟩) n cap, .int .i64 (a : Int), u2, u3, u4, u5, u6, u7, u8, u9, si, sj, u12, u13, u14, u15, u16, u17, u18, u19, u20, u21, u22, u23, u24, u25, u26, u27, u28, u29, u30, u31, u32, u33, u34, u35, u36, u37, u38, u39, u40, u41, u42, u43, u44, u45, u46, u47, u48, u49, u50, u51, u52, u53, u54, u55, u56, u57, u58, u59, u60, u61, u62, u63, u64, u65, u66, u67, u68, u69, u70, u71, u72, u73, u74, u75, u76, u77, u78, u79, u80, u81, u82, u83, u84, u85, u86, u87, u88, u89, u90, u91, u92, u93, u94, u95, u96, u97, u98, u99, u100, u101, u102, u103, u104, u105, u106, u107, u108, u109, u110, u111, u112, u113, u114, u115, u116, u117, u118, u119, u120, u121, u122, u123, u124, u125, u126, u127, u128, u129, u130, u131, u132, u133, u134, u135, u136, u137, u138, u139, u140, u141, u142, u143, u144, u145, u146, u147, u148, u149, u150, u151, u152, u153, u154, u155, u156, u157, u158, u159, u160, u161, u162, u163, u164, u165, u166, u167], []⟩ WS := by
  subst hsi hsj
  conv => enter [2, 1]; whnf
  have HQ := Lib.hid HQ0
  have HH := Lib.hid hH
  have HS := Lib.hid hs
  have LS := Lib.hid less32
  have P0 := Lib.hid P
  obtain ⟨G, hG⟩ : ∃ G : Nat → Int, ∀ t, G t = dk[t]! := ⟨fun t => dk[t]!, fun _ => rfl⟩
  have HG := Lib.hid hG
  clear HQ0 hH hs P hG
  dsimp only
  go_loopw [10] (fun vi wr => ∃ i2 : Nat, vi = .int .i64 i2 ∧ i ≤ i2 ∧ i2 ≤ j + 1 ∧ Hid (PutN w blk off n dk wr ∧ scanUp (fun x => ltInt x dk[a]!) dk j i2 = scanUp (fun x => ltInt x dk[a]!) dk j i)) (fun vi _ => j + 2 - (intOf vi).toNat)
  case atStart => exact ⟨i, rfl, Nat.le_refl _, hij, Lib.hid ⟨P0.out, rfl⟩⟩
  case round =>
    clear P0
    obtain ⟨i2, rfl, h1, h2, S⟩ := hrel
    obtain ⟨W, eW⟩ : ∃ W, W = wr := ⟨_, rfl⟩
    subst eW
    have hcw := S.out.1.cells HH.out HS.out HG.out
    by_cases c : i2 ≤ j
    · have d1 : decide ((i2 : Int) ≤ (j : Int)) = true := decide_eq_true (by omega)
      cases q : ltInt (G i2) (G a) with
      | true =>
        have NX : Hid (∀ q, PutN w blk off n dk (W.drewN q) ∧ scanUp (fun x => ltInt x dk[a]!) dk j (i2 + 1) = scanUp (fun x => ltInt x dk[a]!) dk j i) := Lib.hid (fun _ => ⟨S.out.1.draw _, by rw [← S.out.2]; exact (scanUp_go _ dk j i2 c (by rw [← HG.out, ← HG.out, q])).symm⟩)
        have L1 := Lib.hid (fun W => LS.out (G i2) (G a) W)
        rw [q] at L1
        clear S q LS
        go_wp2_with fail
        go_big_quiet (first | (go_at_call 122; refine Calls.quiet_of_same (L1.out _)))
        go_wp2_with fail
        go_roundw
        case rel => exact ⟨i2 + 1, by go_num, by omega, by omega, Lib.hid (NX.out _)⟩
        case measure => simp [intOf]; omega
      | false =>
        have EN : Hid (scanUp (fun x => ltInt x dk[a]!) dk j i = i2) := Lib.hid (by rw [← S.out.2]; exact scanUp_end _ dk j i2 (.inr (by rw [← HG.out, ← HG.out, q])))
        have L1 := Lib.hid (fun W => LS.out (G i2) (G a) W)
        have PN := Lib.hid (fun q => S.out.1.draw q)
        rw [q] at L1
        clear S q LS
        rw [EN.out] at HQ
        go_wp2_with fail
        go_big_quiet (first | (go_at_call 122; refine Calls.quiet_of_same (L1.out _)))
        go_wp2_with fail
        exact HQ.out _ _ _ _ _ _ _ _ _ _ _ _ _ _ _ _ _ (PN.out _) (by omega) (by omega)
    · have d1 : decide ((i2 : Int) ≤ (j : Int)) = false := decide_eq_false (by omega)
      have EN : Hid (scanUp (fun x => ltInt x dk[a]!) dk j i = i2) := Lib.hid (by rw [← S.out.2]; exact scanUp_end _ dk j i2 (.inl c))
      have PN := Lib.hid (fun q => S.out.1.draw q)
      clear S
      rw [EN.out] at HQ
      go_wp2_with fail
      go_big_quiet (first | (go_at_call 122; refine Calls.quiet_of_same (LS.out _ _ _)))
      go_wp2_with fail
      exact HQ.out _ _ _ _ _ _ _ _ _ _ _ _ _ _ _ _ _ (PN.out _) (by omega) (by omega)

set_option maxHeartbeats 16000000 in
set_option maxRecDepth 100000 in
theorem pt_down0 (Q : Exit → Act → World → Prop) (w WS : World) (blk off cap n a i j : Nat) (d0 dk : Array Int) (hH : Holds eU w blk off d0) (hs : d0.size = n) (hai : a < i) (hij : i ≤ j + 1) (hjn : j < n) (hsz : n < 4611686018427387904) (P : PutN w blk off n dk WS) (si sj : Value) (hsi : si = .int .i64 (i : Int)) (hsj : sj = .int .i64 (j : Int)) (u2 u3 u4 u5 u6 u7 u8 u9 u12 u13 u14 u15 u16 u17 u18 u19 u20 u21 u22 u23 u24 u25 u26 u27 u28 u29 u30 u31 u32 u33 u34 u35 u36 u37 u38 u39 u40 u41 u42 u43 u44 u45 u46 u47 u48 u49 u50 u51 u52 u53 u54 u55 u56 u57 u58 u59 u60 u61 u62 u63 u64 u65 u66 u67 u68 u69 u70 u71 u72 u73 u74 u75 u76 u77 u78 u79 u80 u81 u82 u83 u84 u85 u86 u87 u88 u89 u90 u91 u92 u93 u94 u95 u96 u97 u98 u99 u100 u101 u102 u103 u104 u105 u106 u107 u108 u109 u110 u111 u112 u113 u114 u115 u116 u117 u118 u119 u120 u121 u122 u123 u124 u125 u126 u127 u128 u129 u130 u131 u132 u133 u134 u135 u136 u137 u138 u139 u140 u141 u142 u143 u144 u145 u146 u147 u148 u149 u150 u151 u152 u153 u154 u155 u156 u157 u158 u159 u160 u161 u162 u163 u164 u165 u166 u167 : Value)
    (HQ0 : ∀ (v46 v47 v48 v49 v50 v51 v52 v53 v54 v55 v56 v57 v58 v59 v60 v61 v62 : Value) (w' : World), PutN w blk off n dk w' → scanDown (fun x => !ltInt x dk[a]!) dk i j ≤ j → i ≤ scanDown (fun x => !ltInt x dk[a]!) dk i j + 1 → Q (.exit 2) ⟨#[.slice (some ⟨blk, off, none⟩) n cap, .int .i64 (a : Int), u2, u3, u4, u5, u6, u7, u8, u9, .int .i64 (i : Int), .int .i64 ((scanDown (fun x => !ltInt x dk[a]!) dk i j : Nat) : Int), u12, u13, u14, u15, u16, u17, u18, u19, u20, u21, u22, u23, u24, u25, u26, u27, u28, u29, u30, u31, u32, u33, u34, u35, u36, u37, u38, u39, u40, u41, u42, u43, u44, u45, v46, v47, v48, v49, v50, v51, v52, v53, v54, v55, v56, v57, v58, v59, v60, v61, v62, u63, u64, u65, u66, u67, u68, u69, u70, u71, u72, u73, u74, u75, u76, u77, u78, u79, u80, u81, u82, u83, u84, u85, u86, u87, u88, u89, u90, u91, u92, u93, u94, u95, u96, u97, u98, u99, u100, u101, u102, u103, u104, u105, u106, u107, u108, u109, u110, u111, u112, u113, u114, u115, u116, u117, u118, u119, u120, u121, u122, u123, u124, u125, u126, u127, u128, u129, u130, u131, u132, u133, u134, u135, u136, u137, u138, u139, u140, u141, u142, u143, u144, u145, u146, u147, u148, u149, u150, u151, u152, u153, u154, u155, u156, u157, u158, u159, u160, u161, u162, u163, u164, u165, u166, u167], []⟩ w') :
    Code.wp Tryz.prog (.loop (ptBody 1)) Q ⟨#[.slice (some ⟨blk, off, none⟩) n cap, .int .i64 (a : Int), u2, u3, u4, u5, u6, u7, u8, u9, si, sj, u12, u13, u14, u15, u16, u17, u18, u19, u20, u21, u22, u23, u24, u25, u26, u27, u28, u29, u30, u31, u32, u33, u34, u35, u36, u37, u38, u39, u40, u41, u42, u43, u44, u45, u46, u47, u48, u49, u50, u51, u52, u53, u54, u55, u56, u57, u58, u59, u60, u61, u62, u63, u64, u65, u66, u67, u68, u69, u70, u71, u72, u73, u74, u75, u76, u77, u78, u79, u80, u81, u82, u83, u84, u85, u86, u87, u88, u89, u90, u91, u92, u93, u94, u95, u96, u97, u98, u99, u100, u101, u102, u103, u104, u105, u106, u107, u108, u109, u110, u111, u112, u113, u114, u115, u116, u117, u118, u119, u120, u121, u122, u123, u124, u125, u126, u127, u128, u129, u130, u131, u132, u133, u134, u135, u136, u137, u138, u139, u140, u141, u142, u143, u144, u145, u146, u147, u148, u149, u150, u151, u152, u153, u154, u155, u156, u157, u158, u159, u160, u161, u162, u163, u164, u165, u166, u167], []⟩ WS := by
  subst hsi hsj
  conv => enter [2, 1]; whnf
  have HQ := Lib.hid HQ0
  have HH := Lib.hid hH
  have HS := Lib.hid hs
  have LS := Lib.hid less32
  have P0 := Lib.hid P
  obtain ⟨G, hG⟩ : ∃ G : Nat → Int, ∀ t, G t = dk[t]! := ⟨fun t => dk[t]!, fun _ => rfl⟩
  have HG := Lib.hid hG
  clear HQ0 hH hs P hG
  dsimp only
  go_loopw [11] (fun vi wr => ∃ j2 : Nat, vi = .int .i64 j2 ∧ j2 ≤ j ∧ i ≤ j2 + 1 ∧ Hid (PutN w blk off n dk wr ∧ scanDown (fun x => !ltInt x dk[a]!) dk i j2 = scanDown (fun x => !ltInt x dk[a]!) dk i j)) (fun vi _ => (intOf vi).toNat)
  case atStart => exact ⟨j, rfl, Nat.le_refl _, hij, Lib.hid ⟨P0.out, rfl⟩⟩
  case round =>
    clear P0
    obtain ⟨j2, rfl, h1, h2, S⟩ := hrel
    obtain ⟨W, eW⟩ : ∃ W, W = wr := ⟨_, rfl⟩
    subst eW
    have hcw := S.out.1.cells HH.out HS.out HG.out
    by_cases c : i ≤ j2
    · have d1 : decide ((i : Int) ≤ (j2 : Int)) = true := decide_eq_true (by omega)
      cases q : ltInt (G j2) (G a) with
      | false =>
        have NX : Hid (∀ q, PutN w blk off n dk (W.drewN q) ∧ scanDown (fun x => !ltInt x dk[a]!) dk i (j2 - 1) = scanDown (fun x => !ltInt x dk[a]!) dk i j) := Lib.hid (fun _ => ⟨S.out.1.draw _, by rw [← S.out.2]; exact (scanDown_go _ dk i j2 c (by omega) (by rw [← HG.out, ← HG.out, q]; rfl)).symm⟩)
        have L1 := Lib.hid (fun W => LS.out (G j2) (G a) W)
        rw [q] at L1
        clear S q LS
        go_wp2_with fail
        go_big_quiet (first | (go_at_call 122; refine Calls.quiet_of_same (L1.out _)))
        go_wp2_with fail
        go_roundw
        case rel => exact ⟨j2 - 1, by go_num, by omega, by omega, Lib.hid (NX.out _)⟩
        case measure => simp [intOf]; omega
      | true =>
        have EN : Hid (scanDown (fun x => !ltInt x dk[a]!) dk i j = j2) := Lib.hid (by rw [← S.out.2]; exact scanDown_end _ dk i j2 (.inr (by rw [← HG.out, ← HG.out, q]; rfl)))
        have L1 := Lib.hid (fun W => LS.out (G j2) (G a) W)
        have PN := Lib.hid (fun q => S.out.1.draw q)
        rw [q] at L1
        clear S q LS
        rw [EN.out] at HQ
        go_wp2_with fail
        go_big_quiet (first | (go_at_call 122; refine Calls.quiet_of_same (L1.out _)))
        go_wp2_with fail
        exact HQ.out _ _ _ _ _ _ _ _ _ _ _ _ _ _ _ _ _ _ (PN.out _) (by omega) (by omega)
    · have d1 : decide ((i : Int) ≤ (j2 : Int)) = false := decide_eq_false (by omega)
      have EN : Hid (scanDown (fun x => !ltInt x dk[a]!) dk i j = j2) := Lib.hid (by rw [← S.out.2]; exact scanDown_end _ dk i j2 (.inl c))
      have PN := Lib.hid (fun q => S.out.1.draw q)
      clear S
      rw [EN.out] at HQ
      go_wp2_with fail
      go_big_quiet (first | (go_at_call 122; refine Calls.quiet_of_same (LS.out _ _ _)))
      go_wp2_with fail
      exact HQ.out _ _ _ _ _ _ _ _ _ _ _ _ _ _ _ _ _ _ (PN.out _) (by omega) (by omega)

set_option maxHeartbeats 16000000 in
set_option maxRecDepth 100000 in
theorem pt_up1 (Q : Exit → Act → World → Prop) (w WS : World) (blk off cap n a i j : Nat) (d0 dk : Array Int) (hH : Holds eU w blk off d0) (hs : d0.size = n) (hai : a < i) (hij : i ≤ j + 1) (hjn : j < n) (hsz : n < 4611686018427387904) (P : PutN w blk off n dk WS) (si sj : Value) (hsi : si = .int .i64 (i : Int)) (hsj : sj = .int .i64 (j : Int)) (u2 u3 u4 u5 u6 u7 u8 u9 u12 u13 u14 u15 u16 u17 u18 u19 u20 u21 u22 u23 u24 u25 u26 u27 u28 u29 u30 u31 u32 u33 u34 u35 u36 u37 u38 u39 u40 u41 u42 u43 u44 u45 u46 u47 u48 u49 u50 u51 u52 u53 u54 u55 u56 u57 u58 u59 u60 u61 u62 u63 u64 u65 u66 u67 u68 u69 u70 u71 u72 u73 u74 u75 u76 u77 u78 u79 u80 u81 u82 u83 u84 u85 u86 u87 u88 u89 u90 u91 u92 u93 u94 u95 u96 u97 u98 u99 u100 u101 u102 u103 u104 u105 u106 u107 u108 u109 u110 u111 u112 u113 u114 u115 u116 u117 u118 u119 u120 u121 u122 u123 u124 u125 u126 u127 u128 u129 u130 u131 u132 u133 u134 u135 u136 u137 u138 u139 u140 u141 u142 u143 u144 u145 u146 u147 u148 u149 u150 u151 u152 u153 u154 u155 u156 u157 u158 u159 u160 u161 u162 u163 u164 u165 u166 u167 : Value)
    (HQ0 : ∀ (v99 v100 v101 v102 v103 v104 v105 v106 v107 v108 v109 v110 v111 v112 v113 v114 : Value) (w' : World), PutN w blk off n dk w' → i ≤ scanUp (fun x => ltInt x dk[a]!) dk j i → scanUp (fun x => ltInt x dk[a]!) dk j i ≤ j + 1 → Q (.exit 6) ⟨#[.slice (some ⟨blk, off, none⟩) n cap, .int .i64 (a : Int), u2, u3, u4, u5, u6, u7, u8, u9, .int .i64 ((scanUp (fun x => ltInt x dk[a]!) dk j i : Nat) : Int), .int .i64 (j : Int), u12, u13, u14, u15, u16, u17, u18, u19, u20, u21, u22, u23, u24, u25, u26, u27, u28, u29, u30, u31, u32, u33, u34, u35, u36, u37, u38, u39, u40, u41, u42, u43, u44, u45, u46, u47, u48, u49, u50, u51, u52, u53, u54, u55, u56, u57, u58, u59, u60, u61, u62, u63, u64, u65, u66, u67, u68, u69, u70, u71, u72, u73, u74, u75, u76, u77, u78, u79, u80, u81, u82, u83, u84, u85, u86, u87, u88, u89, u90, u91, u92, u93, u94, u95, u96, u97, u98, v99, v100, v101, v102, v103, v104, v105, v106, v107, v108, v109, v110, v111, v112, v113, v114, u115, u116, u117, u118, u119, u120, u121, u122, u123, u124, u125, u126, u127, u128, u129, u130, u131, u132, u133, u134, u135, u136, u137, u138, u139, u140, u141, u142, u143, u144, u145, u146, u147, u148, u149, u150, u151, u152, u153, u154, u155, u156, u157, u158, u159, u160, u161, u162, u163, u164, u165, u166, u167], []⟩ w') :
    Code.wp Tryz.prog (.loop (ptIn 0)) Q ⟨#[.slice (some ⟨blk, off, none⟩) n cap, .int .i64 (a : Int), u2, u3, u4, u5, u6, u7, u8, u9, si, sj, u12, u13, u14, u15, u16, u17, u18, u19, u20, u21, u22, u23, u24, u25, u26, u27, u28, u29, u30, u31, u32, u33, u34, u35, u36, u37, u38, u39, u40, u41, u42, u43, u44, u45, u46, u47, u48, u49, u50, u51, u52, u53, u54, u55, u56, u57, u58, u59, u60, u61, u62, u63, u64, u65, u66, u67, u68, u69, u70, u71, u72, u73, u74, u75, u76, u77, u78, u79, u80, u81, u82, u83, u84, u85, u86, u87, u88, u89, u90, u91, u92, u93, u94, u95, u96, u97, u98, u99, u100, u101, u102, u103, u104, u105, u106, u107, u108, u109, u110, u111, u112, u113, u114, u115, u116, u117, u118, u119, u120, u121, u122, u123, u124, u125, u126, u127, u128, u129, u130, u131, u132, u133, u134, u135, u136, u137, u138, u139, u140, u141, u142, u143, u144, u145, u146, u147, u148, u149, u150, u151, u152, u153, u154, u155, u156, u157, u158, u159, u160, u161, u162, u163, u164, u165, u166, u167], []⟩ WS := by
  subst hsi hsj
  conv => enter [2, 1]; whnf
  have HQ := Lib.hid HQ0
  have HH := Lib.hid hH
  have HS := Lib.hid hs
  have LS := Lib.hid less32
  have P0 := Lib.hid P
  obtain ⟨G, hG⟩ : ∃ G : Nat → Int, ∀ t, G t = dk[t]! := ⟨fun t => dk[t]!, fun _ => rfl⟩
  have HG := Lib.hid hG
  clear HQ0 hH hs P hG
  dsimp only
  go_loopw [10] (fun vi wr => ∃ i2 : Nat, vi = .int .i64 i2 ∧ i ≤ i2 ∧ i2 ≤ j + 1 ∧ Hid (PutN w blk off n dk wr ∧ scanUp (fun x => ltInt x dk[a]!) dk j i2 = scanUp (fun x => ltInt x dk[a]!) dk j i)) (fun vi _ => j + 2 - (intOf vi).toNat)
  case atStart => exact ⟨i, rfl, Nat.le_refl _, hij, Lib.hid ⟨P0.out, rfl⟩⟩
  case round =>
    clear P0
    obtain ⟨i2, rfl, h1, h2, S⟩ := hrel
    obtain ⟨W, eW⟩ : ∃ W, W = wr := ⟨_, rfl⟩
    subst eW
    have hcw := S.out.1.cells HH.out HS.out HG.out
    by_cases c : i2 ≤ j
    · have d1 : decide ((i2 : Int) ≤ (j : Int)) = true := decide_eq_true (by omega)
      cases q : ltInt (G i2) (G a) with
      | true =>
        have NX : Hid (∀ q, PutN w blk off n dk (W.drewN q) ∧ scanUp (fun x => ltInt x dk[a]!) dk j (i2 + 1) = scanUp (fun x => ltInt x dk[a]!) dk j i) := Lib.hid (fun _ => ⟨S.out.1.draw _, by rw [← S.out.2]; exact (scanUp_go _ dk j i2 c (by rw [← HG.out, ← HG.out, q])).symm⟩)
        have L1 := Lib.hid (fun W => LS.out (G i2) (G a) W)
        rw [q] at L1
        clear S q LS
        go_wp2_with fail
        go_big_quiet (first | (go_at_call 122; refine Calls.quiet_of_same (L1.out _)))
        go_wp2_with fail
        go_roundw
        case rel => exact ⟨i2 + 1, by go_num, by omega, by omega, Lib.hid (NX.out _)⟩
        case measure => simp [intOf]; omega
      | false =>
        have EN : Hid (scanUp (fun x => ltInt x dk[a]!) dk j i = i2) := Lib.hid (by rw [← S.out.2]; exact scanUp_end _ dk j i2 (.inr (by rw [← HG.out, ← HG.out, q])))
        have L1 := Lib.hid (fun W => LS.out (G i2) (G a) W)
        have PN := Lib.hid (fun q => S.out.1.draw q)
        rw [q] at L1
        clear S q LS
        rw [EN.out] at HQ
        go_wp2_with fail
        go_big_quiet (first | (go_at_call 122; refine Calls.quiet_of_same (L1.out _)))
        go_wp2_with fail
        exact HQ.out _ _ _ _ _ _ _ _ _ _ _ _ _ _ _ _ _ (PN.out _) (by omega) (by omega)
    · have d1 : decide ((i2 : Int) ≤ (j : Int)) = false := decide_eq_false (by omega)
      have EN : Hid (scanUp (fun x => ltInt x dk[a]!) dk j i = i2) := Lib.hid (by rw [← S.out.2]; exact scanUp_end _ dk j i2 (.inl c))
      have PN := Lib.hid (fun q => S.out.1.draw q)
      clear S
      rw [EN.out] at HQ
      go_wp2_with fail
      go_big_quiet (first | (go_at_call 122; refine Calls.quiet_of_same (LS.out _ _ _)))
      go_wp2_with fail
      exact HQ.out _ _ _ _ _ _ _ _ _ _ _ _ _ _ _ _ _ (PN.out _) (by omega) (by omega)

set_option maxHeartbeats 16000000 in
set_option maxRecDepth 100000 in
theorem pt_down1 (Q : Exit → Act → World → Prop) (w WS : World) (blk off cap n a i j : Nat) (d0 dk : Array Int) (hH : Holds eU w blk off d0) (hs : d0.size = n) (hai : a < i) (hij : i ≤ j + 1) (hjn : j < n) (hsz : n < 4611686018427387904) (P : PutN w blk off n dk WS) (si sj : Value) (hsi : si = .int .i64 (i : Int)) (hsj : sj = .int .i64 (j : Int)) (u2 u3 u4 u5 u6 u7 u8 u9 u12 u13 u14 u15 u16 u17 u18 u19 u20 u21 u22 u23 u24 u25 u26 u27 u28 u29 u30 u31 u32 u33 u34 u35 u36 u37 u38 u39 u40 u41 u42 u43 u44 u45 u46 u47 u48 u49 u50 u51 u52 u53 u54 u55 u56 u57 u58 u59 u60 u61 u62 u63 u64 u65 u66 u67 u68 u69 u70 u71 u72 u73 u74 u75 u76 u77 u78 u79 u80 u81 u82 u83 u84 u85 u86 u87 u88 u89 u90 u91 u92 u93 u94 u95 u96 u97 u98 u99 u100 u101 u102 u103 u104 u105 u106 u107 u108 u109 u110 u111 u112 u113 u114 u115 u116 u117 u118 u119 u120 u121 u122 u123 u124 u125 u126 u127 u128 u129 u130 u131 u132 u133 u134 u135 u136 u137 u138 u139 u140 u141 u142 u143 u144 u145 u146 u147 u148 u149 u150 u151 u152 u153 u154 u155 u156 u157 u158 u159 u160 u161 u162 u163 u164 u165 u166 u167 : Value)
    (HQ0 : ∀ (v115 v116 v117 v118 v119 v120 v121 v122 v123 v124 v125 v126 v127 v128 v129 v130 v131 : Value) (w' : World), PutN w blk off n dk w' → scanDown (fun x => !ltInt x dk[a]!) dk i j ≤ j → i ≤ scanDown (fun x => !ltInt x dk[a]!) dk i j + 1 → Q (.exit 8) ⟨#[.slice (some ⟨blk, off, none⟩) n cap, .int .i64 (a : Int), u2, u3, u4, u5, u6, u7, u8, u9, .int .i64 (i : Int), .int .i64 ((scanDown (fun x => !ltInt x dk[a]!) dk i j : Nat) : Int), u12, u13, u14, u15, u16, u17, u18, u19, u20, u21, u22, u23, u24, u25, u26, u27, u28, u29, u30, u31, u32, u33, u34, u35, u36, u37, u38, u39, u40, u41, u42, u43, u44, u45, u46, u47, u48, u49, u50, u51, u52, u53, u54, u55, u56, u57, u58, u59, u60, u61, u62, u63, u64, u65, u66, u67, u68, u69, u70, u71, u72, u73, u74, u75, u76, u77, u78, u79, u80, u81, u82, u83, u84, u85, u86, u87, u88, u89, u90, u91, u92, u93, u94, u95, u96, u97, u98, u99, u100, u101, u102, u103, u104, u105, u106, u107, u108, u109, u110, u111, u112, u113, u114, v115, v116, v117, v118, v119, v120, v121, v122, v123, v124, v125, v126, v127, v128, v129, v130, v131, u132, u133, u134, u135, u136, u137, u138, u139, u140, u141, u142, u143, u144, u145, u146, u147, u148, u149, u150, u151, u152, u153, u154, u155, u156, u157, u158, u159, u160, u161, u162, u163, u164, u165, u166, u167], []⟩ w') :
    Code.wp Tryz.prog (.loop (ptIn 1)) Q ⟨#[.slice (some ⟨blk, off, none⟩) n cap, .int .i64 (a : Int), u2, u3, u4, u5, u6, u7, u8, u9, si, sj, u12, u13, u14, u15, u16, u17, u18, u19, u20, u21, u22, u23, u24, u25, u26, u27, u28, u29, u30, u31, u32, u33, u34, u35, u36, u37, u38, u39, u40, u41, u42, u43, u44, u45, u46, u47, u48, u49, u50, u51, u52, u53, u54, u55, u56, u57, u58, u59, u60, u61, u62, u63, u64, u65, u66, u67, u68, u69, u70, u71, u72, u73, u74, u75, u76, u77, u78, u79, u80, u81, u82, u83, u84, u85, u86, u87, u88, u89, u90, u91, u92, u93, u94, u95, u96, u97, u98, u99, u100, u101, u102, u103, u104, u105, u106, u107, u108, u109, u110, u111, u112, u113, u114, u115, u116, u117, u118, u119, u120, u121, u122, u123, u124, u125, u126, u127, u128, u129, u130, u131, u132, u133, u134, u135, u136, u137, u138, u139, u140, u141, u142, u143, u144, u145, u146, u147, u148, u149, u150, u151, u152, u153, u154, u155, u156, u157, u158, u159, u160, u161, u162, u163, u164, u165, u166, u167], []⟩ WS := by
  subst hsi hsj
  conv => enter [2, 1]; whnf
  have HQ := Lib.hid HQ0
  have HH := Lib.hid hH
  have HS := Lib.hid hs
  have LS := Lib.hid less32
  have P0 := Lib.hid P
  obtain ⟨G, hG⟩ : ∃ G : Nat → Int, ∀ t, G t = dk[t]! := ⟨fun t => dk[t]!, fun _ => rfl⟩
  have HG := Lib.hid hG
  clear HQ0 hH hs P hG
  dsimp only
  go_loopw [11] (fun vi wr => ∃ j2 : Nat, vi = .int .i64 j2 ∧ j2 ≤ j ∧ i ≤ j2 + 1 ∧ Hid (PutN w blk off n dk wr ∧ scanDown (fun x => !ltInt x dk[a]!) dk i j2 = scanDown (fun x => !ltInt x dk[a]!) dk i j)) (fun vi _ => (intOf vi).toNat)
  case atStart => exact ⟨j, rfl, Nat.le_refl _, hij, Lib.hid ⟨P0.out, rfl⟩⟩
  case round =>
    clear P0
    obtain ⟨j2, rfl, h1, h2, S⟩ := hrel
    obtain ⟨W, eW⟩ : ∃ W, W = wr := ⟨_, rfl⟩
    subst eW
    have hcw := S.out.1.cells HH.out HS.out HG.out
    by_cases c : i ≤ j2
    · have d1 : decide ((i : Int) ≤ (j2 : Int)) = true := decide_eq_true (by omega)
      cases q : ltInt (G j2) (G a) with
      | false =>
        have NX : Hid (∀ q, PutN w blk off n dk (W.drewN q) ∧ scanDown (fun x => !ltInt x dk[a]!) dk i (j2 - 1) = scanDown (fun x => !ltInt x dk[a]!) dk i j) := Lib.hid (fun _ => ⟨S.out.1.draw _, by rw [← S.out.2]; exact (scanDown_go _ dk i j2 c (by omega) (by rw [← HG.out, ← HG.out, q]; rfl)).symm⟩)
        have L1 := Lib.hid (fun W => LS.out (G j2) (G a) W)
        rw [q] at L1
        clear S q LS
        go_wp2_with fail
        go_big_quiet (first | (go_at_call 122; refine Calls.quiet_of_same (L1.out _)))
        go_wp2_with fail
        go_roundw
        case rel => exact ⟨j2 - 1, by go_num, by omega, by omega, Lib.hid (NX.out _)⟩
        case measure => simp [intOf]; omega
      | true =>
        have EN : Hid (scanDown (fun x => !ltInt x dk[a]!) dk i j = j2) := Lib.hid (by rw [← S.out.2]; exact scanDown_end _ dk i j2 (.inr (by rw [← HG.out, ← HG.out, q]; rfl)))
        have L1 := Lib.hid (fun W => LS.out (G j2) (G a) W)
        have PN := Lib.hid (fun q => S.out.1.draw q)
        rw [q] at L1
        clear S q LS
        rw [EN.out] at HQ
        go_wp2_with fail
        go_big_quiet (first | (go_at_call 122; refine Calls.quiet_of_same (L1.out _)))
        go_wp2_with fail
        exact HQ.out _ _ _ _ _ _ _ _ _ _ _ _ _ _ _ _ _ _ (PN.out _) (by omega) (by omega)
    · have d1 : decide ((i : Int) ≤ (j2 : Int)) = false := decide_eq_false (by omega)
      have EN : Hid (scanDown (fun x => !ltInt x dk[a]!) dk i j = j2) := Lib.hid (by rw [← S.out.2]; exact scanDown_end _ dk i j2 (.inl c))
      have PN := Lib.hid (fun q => S.out.1.draw q)
      clear S
      rw [EN.out] at HQ
      go_wp2_with fail
      go_big_quiet (first | (go_at_call 122; refine Calls.quiet_of_same (LS.out _ _ _)))
      go_wp2_with fail
      exact HQ.out _ _ _ _ _ _ _ _ _ _ _ _ _ _ _ _ _ _ (PN.out _) (by omega) (by omega)

end Go.Proofs.YtombnejipaoinaaGreat

namespace Go.Proofs.YtombnejipaoinaaGreat
open Go.RowKit Go.Sort

set_option maxHeartbeats 16000000 in
set_option maxRecDepth 100000 in
theorem pt_loop (KX : Act → World → Prop) (R : Ending → World → Prop) (w WS : World) (blk off cap n a b i0 j0 jF : Nat) (d0 dS dF : Array Int) (hH : Holds eU w blk off d0) (hs : d0.size = n) (hai0 : a < i0) (hij0 : i0 ≤ j0 + 1) (hjb0 : j0 < b) (hb : b ≤ n) (hsz : n < 4611686018427387904) (P : PutN w blk off n dS WS) (hR : partLoop ltInt a i0 j0 dS = (jF, dF)) (si sj : Value) (hsi : si = .int .i64 (i0 : Int)) (hsj : sj = .int .i64 (j0 : Int)) (u2 u3 u4 u5 u6 u7 u8 u9 u12 u13 u14 u15 u16 u17 u18 u19 u20 u21 u22 u23 u24 u25 u26 u27 u28 u29 u30 u31 u32 u33 u34 u35 u36 u37 u38 u39 u40 u41 u42 u43 u44 u45 u46 u47 u48 u49 u50 u51 u52 u53 u54 u55 u56 u57 u58 u59 u60 u61 u62 u63 u64 u65 u66 u67 u68 u69 u70 u71 u72 u73 u74 u75 u76 u77 u78 u79 u80 u81 u82 u83 u84 u85 u86 u87 u88 u89 u90 u91 u92 u93 u94 u95 u96 u97 u98 u99 u100 u101 u102 u103 u104 u105 u106 u107 u108 u109 u110 u111 u112 u113 u114 u115 u116 u117 u118 u119 u120 u121 u122 u123 u124 u125 u126 u127 u128 u129 u130 u131 u132 u133 u134 u135 u136 u137 u138 u139 u140 u141 u142 u143 u144 u145 u146 u147 u148 u149 u150 u151 u152 u153 u154 u155 u156 u157 u158 u159 u160 u161 u162 u163 u164 u165 u166 u167 : Value)
    (HQ0 : ∀ (v10 v99 v100 v101 v102 v103 v104 v105 v106 v107 v108 v109 v110 v111 v112 v113 v114 v115 v116 v117 v118 v119 v120 v121 v122 v123 v124 v125 v126 v127 v128 v129 v130 v131 v132 v133 v134 v135 v136 v137 v138 v139 v140 v141 v142 v143 v144 v145 v146 v147 v148 v149 v150 v151 v152 : Value) (w' : World), PutN w blk off n dF w' → a ≤ jF → jF < b → KX ⟨#[.slice (some ⟨blk, off, none⟩) n cap, .int .i64 (a : Int), u2, u3, u4, u5, u6, u7, u8, u9, v10, .int .i64 (jF : Int), u12, u13, u14, u15, u16, u17, u18, u19, u20, u21, u22, u23, u24, u25, u26, u27, u28, u29, u30, u31, u32, u33, u34, u35, u36, u37, u38, u39, u40, u41, u42, u43, u44, u45, u46, u47, u48, u49, u50, u51, u52, u53, u54, u55, u56, u57, u58, u59, u60, u61, u62, u63, u64, u65, u66, u67, u68, u69, u70, u71, u72, u73, u74, u75, u76, u77, u78, u79, u80, u81, u82, u83, u84, u85, u86, u87, u88, u89, u90, u91, u92, u93, u94, u95, u96, u97, u98, v99, v100, v101, v102, v103, v104, v105, v106, v107, v108, v109, v110, v111, v112, v113, v114, v115, v116, v117, v118, v119, v120, v121, v122, v123, v124, v125, v126, v127, v128, v129, v130, v131, v132, v133, v134, v135, v136, v137, v138, v139, v140, v141, v142, v143, v144, v145, v146, v147, v148, v149, v150, v151, v152, u153, u154, u155, u156, u157, u158, u159, u160, u161, u162, u163, u164, u165, u166, u167], []⟩ w') :
    Code.wp Tryz.prog (.loop (ptBody 2)) (Exit.inBlock 4 (Exit.then KX (bodyPost Tryz.prog Tryz.f124 R))) ⟨#[.slice (some ⟨blk, off, none⟩) n cap, .int .i64 (a : Int), u2, u3, u4, u5, u6, u7, u8, u9, si, sj, u12, u13, u14, u15, u16, u17, u18, u19, u20, u21, u22, u23, u24, u25, u26, u27, u28, u29, u30, u31, u32, u33, u34, u35, u36, u37, u38, u39, u40, u41, u42, u43, u44, u45, u46, u47, u48, u49, u50, u51, u52, u53, u54, u55, u56, u57, u58, u59, u60, u61, u62, u63, u64, u65, u66, u67, u68, u69, u70, u71, u72, u73, u74, u75, u76, u77, u78, u79, u80, u81, u82, u83, u84, u85, u86, u87, u88, u89, u90, u91, u92, u93, u94, u95, u96, u97, u98, u99, u100, u101, u102, u103, u104, u105, u106, u107, u108, u109, u110, u111, u112, u113, u114, u115, u116, u117, u118, u119, u120, u121, u122, u123, u124, u125, u126, u127, u128, u129, u130, u131, u132, u133, u134, u135, u136, u137, u138, u139, u140, u141, u142, u143, u144, u145, u146, u147, u148, u149, u150, u151, u152, u153, u154, u155, u156, u157, u158, u159, u160, u161, u162, u163, u164, u165, u166, u167], []⟩ WS := by
  subst hsi hsj
  conv => enter [2, 1]; whnf
  have HQ := Lib.hid HQ0
  have HH := Lib.hid hH
  have HS := Lib.hid hs
  have P0 := Lib.hid P
  have HR0 := Lib.hid hR
  clear HQ0 hH hs P hR
  dsimp only
  go_loopw [10, 11] (fun vi vj wr => ∃ (i j : Nat) (dk : Array Int), vi = .int .i64 i ∧ vj = .int .i64 j ∧ a < i ∧ i ≤ j + 1 ∧ j < b ∧ Hid (PutN w blk off n dk wr ∧ partLoop ltInt a i j dk = (jF, dF))) (fun vi vj _ => (intOf vj + 1 - intOf vi).toNat)
  case atStart => exact ⟨i0, j0, dS, by go_num, by go_num, by omega, by omega, by omega, Lib.hid ⟨P0.out, HR0.out⟩⟩
  case round =>
    clear P0 HR0
    obtain ⟨i, j, dk, rfl, rfl, hai, hij, hjb, RR⟩ := hrel
    clear hai0 hij0 hjb0
    obtain ⟨G, hG⟩ : ∃ G : Nat → Int, ∀ t, G t = dk[t]! := ⟨fun t => dk[t]!, fun _ => rfl⟩
    have HG := Lib.hid hG
    have EQ := Lib.hid RR.out.2
    clear hG
    go_wp2_with fail
    rename_i K hK
    refine pt_up1 _ w _ blk off cap n a i j d0 dk HH.out HS.out hai hij (by omega) hsz RR.out.1 _ _ rfl rfl _ _ _ _ _ _ _ _ _ _ _ _ _ _ _ _ _ _ _ _ _ _ _ _ _ _ _ _ _ _ _ _ _ _ _ _ _ _ _ _ _ _ _ _ _ _ _ _ _ _ _ _ _ _ _ _ _ _ _ _ _ _ _ _ _ _ _ _ _ _ _ _ _ _ _ _ _ _ _ _ _ _ _ _ _ _ _ _ _ _ _ _ _ _ _ _ _ _ _ _ _ _ _ _ _ _ _ _ _ _ _ _ _ _ _ _ _ _ _ _ _ _ _ _ _ _ _ _ _ _ _ _ _ _ _ _ _ _ _ _ _ _ _ _ _ _ _ _ _ _ _ _ _ _ _ _ _ _ _ _ _ _ _ _ ?hq1
    case hq1 =>
    intro v99 v100 v101 v102 v103 v104 v105 v106 v107 v108 v109 v110 v111 v112 v113 v114 w1 P1 g1 g2
    have HP1 := Lib.hid P1
    generalize hi2 : scanUp (fun x => ltInt x dk[a]!) dk j i = i2 at g1 g2 ⊢
    have I2 := Lib.hid hi2
    clear P1 hi2 RR
    refine hK _ _ ?_
    clear hK
    go_wp2_with fail
    rename_i K2 hK2
    refine pt_down1 _ w _ blk off cap n a i2 j d0 dk HH.out HS.out (by omega) g2 (by omega) hsz HP1.out _ _ rfl rfl _ _ _ _ _ _ _ _ _ _ _ _ _ _ _ _ _ _ _ _ _ _ _ _ _ _ _ _ _ _ _ _ _ _ _ _ _ _ _ _ _ _ _ _ _ _ _ _ _ _ _ _ _ _ _ _ _ _ _ _ _ _ _ _ _ _ _ _ _ _ _ _ _ _ _ _ _ _ _ _ _ _ _ _ _ _ _ _ _ _ _ _ _ _ _ _ _ _ _ _ _ _ _ _ _ _ _ _ _ _ _ _ _ _ _ _ _ _ _ _ _ _ _ _ _ _ _ _ _ _ _ _ _ _ _ _ _ _ _ _ _ _ _ _ _ _ _ _ _ _ _ _ _ _ _ _ _ _ _ _ _ _ _ _ ?hq2
    case hq2 =>
    intro v115 v116 v117 v118 v119 v120 v121 v122 v123 v124 v125 v126 v127 v128 v129 v130 v131 w2 P2 g3 g4
    have P3 := Lib.hid P2
    generalize hj2 : scanDown (fun x => !ltInt x dk[a]!) dk i2 j = j2 at g3 g4 ⊢
    have J2 := Lib.hid hj2
    clear P2 hj2 HP1
    refine hK2 _ _ ?_
    clear hK2
    by_cases c : j2 < i2
    · have EN := (EQ.out.symm.trans (part_break ltInt a i j dk I2.out.symm J2.out.symm c))
      have d1 : decide ((j2 : Int) < (i2 : Int)) = true := decide_eq_true (by omega)
      injection EN with e1 e2
      subst e1 e2
      clear EQ I2 J2 HG
      go_wp2_with fail
      exact HQ.out _ _ _ _ _ _ _ _ _ _ _ _ _ _ _ _ _ _ _ _ _ _ _ _ _ _ _ _ _ _ _ _ _ _ _ _ _ _ _ _ _ _ _ _ _ _ _ _ _ _ _ _ _ _ _ _ P3.out (by omega) (by omega)
    · have d1 : decide ((j2 : Int) < (i2 : Int)) = false := decide_eq_false (by omega)
      have lt := part_scans_lt ltInt a i j dk (by omega) I2.out.symm J2.out.symm (by omega)
      have NX := Lib.hid (fun q => P3.out.swapG HG.out (i := i2) (j := j2) (by omega) (by omega) q)
      have EQ2 : Hid (partLoop ltInt a (i2 + 1) (j2 - 1) (swp dk i2 j2) = (jF, dF)) := Lib.hid (by rw [← EQ.out, part_go ltInt a i j dk I2.out.symm J2.out.symm (by omega)])
      have hcw := P3.out.cells HH.out HS.out HG.out
      have hfw := P3.out.frees HH.out HS.out
      have ne : ¬ i2 = j2 := by omega
      have ne' : ¬ j2 = i2 := by omega
      obtain ⟨W, eW⟩ : ∃ W, W = w2 := ⟨_, rfl⟩
      subst eW
      have bi : i2 < n := by omega
      have bj : j2 < n := by omega
      have FACT : Hid (a < i2 + 1 ∧ i2 + 1 ≤ j2 - 1 + 1 ∧ j2 - 1 < b ∧ i2 < j2 ∧ i ≤ i2 ∧ j2 ≤ j) := Lib.hid (by omega)
      clear EQ P3 I2 J2 HQ
      go_wp2_with fail
      clear g1 g2 g3 g4 hai hij hjb hb lt c d1
      go_region
      all_goals go_wp2_with fail
      go_roundw
      case rel => exact ⟨i2 + 1, j2 - 1, _, by go_num, (by have fz := FACT.out; congr 1; omega), FACT.out.1, FACT.out.2.1, FACT.out.2.2.1, Lib.hid ⟨NX.out 1, EQ2.out⟩⟩
      case measure => simp [intOf]; have := FACT.out; omega

end Go.Proofs.YtombnejipaoinaaGreat

namespace Go.Proofs.YtombnejipaoinaaGreat
open Go.RowKit Go.Sort

set_option maxHeartbeats 16000000 in
set_option maxRecDepth 100000 in
theorem part32 (blk off cap n a b p : Nat) (d : Array Int) (w : World) (hH : Holds eU w blk off d) (hn : d.size = n) (hap : a ≤ p) (hpb : p < b) (hb : b ≤ n) (hsz : n < 4611686018427387904) :
    Calls Tryz.prog 124 #[.slice (some ⟨blk, off, none⟩) n cap, .int .i64 a, .int .i64 b, .int .i64 p] w fun e w' =>
      e = .returned (.tuple #[.int .i64 ((partition ltInt d a b p).1 : Nat), .bool (partition ltInt d a b p).2.1]) ∧ PutN w blk off n (partition ltInt d a b p).2.2 w' := by
  obtain ⟨m, rfl⟩ : ∃ m, b = m + 1 := ⟨b - 1, by omega⟩
  have HH := Lib.hid hH
  have HN := Lib.hid hn
  have P0 : Hid (PutN w blk off n d w) := Lib.hid ⟨hn, Put.refl hH⟩
  clear hH hn
  go_enter Tryz.func124, Tryz.ntmps124
  obtain ⟨G, hG⟩ : ∃ G : Nat → Int, ∀ t, G t = d[t]! := ⟨fun t => d[t]!, fun _ => rfl⟩
  have hcw := P0.out.cells HH.out HN.out hG
  have hfw := P0.out.frees HH.out HN.out
  have NX := Lib.hid (fun q => P0.out.swapG hG (i := a) (j := p) (by omega) (by omega) q)
  clear P0 hG
  rcases Nat.eq_or_lt_of_le hap with ap | ap
  · subst ap
    go_wp2_with fail
    go_region
    all_goals go_wp2_with fail
    rename_i K hK
    refine pt_up0 _ w _ blk off cap n a (a + 1) m d (swp d a a) HH.out HN.out (by omega) (by omega) (by omega) hsz (NX.out 1) _ _ (by go_num) (by go_num) _ _ _ _ _ _ _ _ _ _ _ _ _ _ _ _ _ _ _ _ _ _ _ _ _ _ _ _ _ _ _ _ _ _ _ _ _ _ _ _ _ _ _ _ _ _ _ _ _ _ _ _ _ _ _ _ _ _ _ _ _ _ _ _ _ _ _ _ _ _ _ _ _ _ _ _ _ _ _ _ _ _ _ _ _ _ _ _ _ _ _ _ _ _ _ _ _ _ _ _ _ _ _ _ _ _ _ _ _ _ _ _ _ _ _ _ _ _ _ _ _ _ _ _ _ _ _ _ _ _ _ _ _ _ _ _ _ _ _ _ _ _ _ _ _ _ _ _ _ _ _ _ _ _ _ _ _ _ _ _ _ _ _ _ ?hq
    case hq =>
    intro v30 v31 v32 v33 v34 v35 v36 v37 v38 v39 v40 v41 v42 v43 v44 v45 w1 P1 g1 g2
    have HP1 := Lib.hid P1
    generalize hi2 : scanUp (fun x => ltInt x (swp d a a)[a]!) (swp d a a) m (a + 1) = i2 at g1 g2 ⊢
    have I2 := Lib.hid hi2
    clear P1 hi2 NX hcw hfw
    refine hK _ _ ?_
    clear hK
    go_wp2_with fail
    rename_i K2 hK2
    refine pt_down0 _ w _ blk off cap n a i2 m d (swp d a a) HH.out HN.out (by omega) g2 (by omega) hsz HP1.out _ _ rfl rfl _ _ _ _ _ _ _ _ _ _ _ _ _ _ _ _ _ _ _ _ _ _ _ _ _ _ _ _ _ _ _ _ _ _ _ _ _ _ _ _ _ _ _ _ _ _ _ _ _ _ _ _ _ _ _ _ _ _ _ _ _ _ _ _ _ _ _ _ _ _ _ _ _ _ _ _ _ _ _ _ _ _ _ _ _ _ _ _ _ _ _ _ _ _ _ _ _ _ _ _ _ _ _ _ _ _ _ _ _ _ _ _ _ _ _ _ _ _ _ _ _ _ _ _ _ _ _ _ _ _ _ _ _ _ _ _ _ _ _ _ _ _ _ _ _ _ _ _ _ _ _ _ _ _ _ _ _ _ _ _ _ _ _ _ ?hq2
    case hq2 =>
    intro v46 v47 v48 v49 v50 v51 v52 v53 v54 v55 v56 v57 v58 v59 v60 v61 v62 w2 P2 g3 g4
    have P3 := Lib.hid P2
    generalize hj2 : scanDown (fun x => !ltInt x (swp d a a)[a]!) (swp d a a) i2 m = j2 at g3 g4 ⊢
    have J2 := Lib.hid hj2
    clear P2 hj2 HP1
    refine hK2 _ _ ?_
    clear hK2
    obtain ⟨G3, hG3⟩ : ∃ G : Nat → Int, ∀ t, G t = (swp d a a)[t]! := ⟨fun t => (swp d a a)[t]!, fun _ => rfl⟩
    have HG3 := Lib.hid hG3
    clear hG3
    by_cases c : j2 < i2
    · have EN : Hid (partition ltInt d a (m + 1) a = (j2, true, swp (swp d a a) j2 a)) := Lib.hid (part_first_break ltInt d a (m + 1) a rfl rfl rfl I2.out.symm J2.out.symm c)
      have d1 : decide ((j2 : Int) < (i2 : Int)) = true := decide_eq_true (by omega)
      clear I2 J2
      have NY := Lib.hid (fun q => P3.out.swapG HG3.out (i := j2) (j := a) (by omega) (by omega) q)
      have hcw := P3.out.cells HH.out HN.out HG3.out
      have hfw := P3.out.frees HH.out HN.out
      have bj : j2 < n := by omega
      have ba : a < n := by omega
      obtain ⟨W, eW⟩ : ∃ W, W = w2 := ⟨_, rfl⟩
      subst eW
      clear P3 HG3
      rcases Nat.eq_or_lt_of_le (show a ≤ j2 by omega) with aj | aj
      · subst aj
        go_wp2_with fail
        go_region
        all_goals go_wp2_with fail
        exact bodyPost_ret (v := .tuple #[.int .i64 (a : Nat), .bool true]) (by simp [results, Tryz.results124, go_sem]) rfl (by rw [EN.out]; exact ⟨rfl, NY.out 1⟩)
      · have ne : ¬ j2 = a := by omega
        have ne' : ¬ a = j2 := by omega
        go_wp2_with fail
        go_region
        all_goals go_wp2_with fail
        exact bodyPost_ret (v := .tuple #[.int .i64 (j2 : Nat), .bool true]) (by simp [results, Tryz.results124, go_sem]) rfl (by rw [EN.out]; exact ⟨rfl, NY.out 1⟩)
    · have d1 : decide ((j2 : Int) < (i2 : Int)) = false := decide_eq_false (by omega)
      have lt := part_scans_lt ltInt a (a + 1) m (swp d a a) (by omega) I2.out.symm J2.out.symm (by omega)
      obtain ⟨jF, dF, hR⟩ : ∃ jF dF, partLoop ltInt a (i2 + 1) (j2 - 1) (swp (swp d a a) i2 j2) = (jF, dF) := ⟨_, _, rfl⟩
      have EN : Hid (partition ltInt d a (m + 1) a = (jF, false, swp dF jF a)) := Lib.hid (by rw [part_first_go ltInt d a (m + 1) a rfl rfl rfl I2.out.symm J2.out.symm (by omega), hR])
      have HR := Lib.hid hR
      have NZ := Lib.hid (fun q => P3.out.swapG HG3.out (i := i2) (j := j2) (by omega) (by omega) q)
      have hcw := P3.out.cells HH.out HN.out HG3.out
      have hfw := P3.out.frees HH.out HN.out
      have ne : ¬ i2 = j2 := by omega
      have ne' : ¬ j2 = i2 := by omega
      have bi : i2 < n := by omega
      have bj : j2 < n := by omega
      have FACT : Hid (a < i2 + 1 ∧ i2 + 1 ≤ j2 - 1 + 1 ∧ j2 - 1 < m + 1 ∧ i2 < j2 ∧ j2 ≤ m) := Lib.hid (by omega)
      have BND : Hid (m + 1 ≤ n) := Lib.hid hb
      obtain ⟨W, eW⟩ : ∃ W, W = w2 := ⟨_, rfl⟩
      subst eW
      clear hR P3 HG3 I2 J2
      go_wp2_with fail
      clear g1 g2 g3 g4 hb lt c d1
      go_region
      all_goals go_wp2_with fail
      clear hcw hfw
      rename_i K3 hK3
      refine pt_loop _ _ w _ blk off cap n a (m + 1) (i2 + 1) (j2 - 1) jF d (swp (swp d a a) i2 j2) dF HH.out HN.out FACT.out.1 FACT.out.2.1 FACT.out.2.2.1 BND.out hsz (NZ.out 1) HR.out _ _ (by go_num) (by have fz := FACT.out; congr 1; omega) _ _ _ _ _ _ _ _ _ _ _ _ _ _ _ _ _ _ _ _ _ _ _ _ _ _ _ _ _ _ _ _ _ _ _ _ _ _ _ _ _ _ _ _ _ _ _ _ _ _ _ _ _ _ _ _ _ _ _ _ _ _ _ _ _ _ _ _ _ _ _ _ _ _ _ _ _ _ _ _ _ _ _ _ _ _ _ _ _ _ _ _ _ _ _ _ _ _ _ _ _ _ _ _ _ _ _ _ _ _ _ _ _ _ _ _ _ _ _ _ _ _ _ _ _ _ _ _ _ _ _ _ _ _ _ _ _ _ _ _ _ _ _ _ _ _ _ _ _ _ _ _ _ _ _ _ _ _ _ _ _ _ _ _ ?hq3
      case hq3 =>
      intro v10 v99 v100 v101 v102 v103 v104 v105 v106 v107 v108 v109 v110 v111 v112 v113 v114 v115 v116 v117 v118 v119 v120 v121 v122 v123 v124 v125 v126 v127 v128 v129 v130 v131 v132 v133 v134 v135 v136 v137 v138 v139 v140 v141 v142 v143 v144 v145 v146 v147 v148 v149 v150 v151 v152 w3 PF f1 f2
      have P3 := Lib.hid PF
      have BN := BND.out
      obtain ⟨G3, hG3⟩ : ∃ G : Nat → Int, ∀ t, G t = dF[t]! := ⟨fun t => dF[t]!, fun _ => rfl⟩
      have HG3 := Lib.hid hG3
      clear hG3 PF HR NZ FACT bi bj ne ne'
      refine hK3 _ _ ?_
      clear hK3
      have NY := Lib.hid (fun q => P3.out.swapG HG3.out (i := jF) (j := a) (by omega) (by omega) q)
      have hcw := P3.out.cells HH.out HN.out HG3.out
      have hfw := P3.out.frees HH.out HN.out
      have bj : jF < n := by omega
      have ba : a < n := by omega
      obtain ⟨W, eW⟩ : ∃ W, W = w3 := ⟨_, rfl⟩
      subst eW
      clear P3 HG3
      rcases Nat.eq_or_lt_of_le (show a ≤ jF by omega) with aj | aj
      · subst aj
        go_wp2_with fail
        go_region
        all_goals go_wp2_with fail
        exact bodyPost_ret (v := .tuple #[.int .i64 (a : Nat), .bool false]) (by simp [results, Tryz.results124, go_sem]) rfl (by rw [EN.out]; exact ⟨rfl, NY.out 1⟩)
      · have ne : ¬ jF = a := by omega
        have ne' : ¬ a = jF := by omega
        go_wp2_with fail
        go_region
        all_goals go_wp2_with fail
        exact bodyPost_ret (v := .tuple #[.int .i64 (jF : Nat), .bool false]) (by simp [results, Tryz.results124, go_sem]) rfl (by rw [EN.out]; exact ⟨rfl, NY.out 1⟩)
  · have ap' : ¬ a = p := by omega
    have ap2 : ¬ p = a := by omega
    go_wp2_with fail
    go_region
    all_goals go_wp2_with fail
    rename_i K hK
    refine pt_up0 _ w _ blk off cap n a (a + 1) m d (swp d a p) HH.out HN.out (by omega) (by omega) (by omega) hsz (NX.out 1) _ _ (by go_num) (by go_num) _ _ _ _ _ _ _ _ _ _ _ _ _ _ _ _ _ _ _ _ _ _ _ _ _ _ _ _ _ _ _ _ _ _ _ _ _ _ _ _ _ _ _ _ _ _ _ _ _ _ _ _ _ _ _ _ _ _ _ _ _ _ _ _ _ _ _ _ _ _ _ _ _ _ _ _ _ _ _ _ _ _ _ _ _ _ _ _ _ _ _ _ _ _ _ _ _ _ _ _ _ _ _ _ _ _ _ _ _ _ _ _ _ _ _ _ _ _ _ _ _ _ _ _ _ _ _ _ _ _ _ _ _ _ _ _ _ _ _ _ _ _ _ _ _ _ _ _ _ _ _ _ _ _ _ _ _ _ _ _ _ _ _ _ ?hq
    case hq =>
    intro v30 v31 v32 v33 v34 v35 v36 v37 v38 v39 v40 v41 v42 v43 v44 v45 w1 P1 g1 g2
    have HP1 := Lib.hid P1
    generalize hi2 : scanUp (fun x => ltInt x (swp d a p)[a]!) (swp d a p) m (a + 1) = i2 at g1 g2 ⊢
    have I2 := Lib.hid hi2
    clear P1 hi2 NX hcw hfw
    refine hK _ _ ?_
    clear hK
    go_wp2_with fail
    rename_i K2 hK2
    refine pt_down0 _ w _ blk off cap n a i2 m d (swp d a p) HH.out HN.out (by omega) g2 (by omega) hsz HP1.out _ _ rfl rfl _ _ _ _ _ _ _ _ _ _ _ _ _ _ _ _ _ _ _ _ _ _ _ _ _ _ _ _ _ _ _ _ _ _ _ _ _ _ _ _ _ _ _ _ _ _ _ _ _ _ _ _ _ _ _ _ _ _ _ _ _ _ _ _ _ _ _ _ _ _ _ _ _ _ _ _ _ _ _ _ _ _ _ _ _ _ _ _ _ _ _ _ _ _ _ _ _ _ _ _ _ _ _ _ _ _ _ _ _ _ _ _ _ _ _ _ _ _ _ _ _ _ _ _ _ _ _ _ _ _ _ _ _ _ _ _ _ _ _ _ _ _ _ _ _ _ _ _ _ _ _ _ _ _ _ _ _ _ _ _ _ _ _ _ ?hq2
    case hq2 =>
    intro v46 v47 v48 v49 v50 v51 v52 v53 v54 v55 v56 v57 v58 v59 v60 v61 v62 w2 P2 g3 g4
    have P3 := Lib.hid P2
    generalize hj2 : scanDown (fun x => !ltInt x (swp d a p)[a]!) (swp d a p) i2 m = j2 at g3 g4 ⊢
    have J2 := Lib.hid hj2
    clear P2 hj2 HP1
    refine hK2 _ _ ?_
    clear hK2
    obtain ⟨G3, hG3⟩ : ∃ G : Nat → Int, ∀ t, G t = (swp d a p)[t]! := ⟨fun t => (swp d a p)[t]!, fun _ => rfl⟩
    have HG3 := Lib.hid hG3
    clear hG3
    by_cases c : j2 < i2
    · have EN : Hid (partition ltInt d a (m + 1) p = (j2, true, swp (swp d a p) j2 a)) := Lib.hid (part_first_break ltInt d a (m + 1) p rfl rfl rfl I2.out.symm J2.out.symm c)
      have d1 : decide ((j2 : Int) < (i2 : Int)) = true := decide_eq_true (by omega)
      clear I2 J2
      have NY := Lib.hid (fun q => P3.out.swapG HG3.out (i := j2) (j := a) (by omega) (by omega) q)
      have hcw := P3.out.cells HH.out HN.out HG3.out
      have hfw := P3.out.frees HH.out HN.out
      have bj : j2 < n := by omega
      have ba : a < n := by omega
      obtain ⟨W, eW⟩ : ∃ W, W = w2 := ⟨_, rfl⟩
      subst eW
      clear P3 HG3
      rcases Nat.eq_or_lt_of_le (show a ≤ j2 by omega) with aj | aj
      · subst aj
        go_wp2_with fail
        go_region
        all_goals go_wp2_with fail
        exact bodyPost_ret (v := .tuple #[.int .i64 (a : Nat), .bool true]) (by simp [results, Tryz.results124, go_sem]) rfl (by rw [EN.out]; exact ⟨rfl, NY.out 1⟩)
      · have ne : ¬ j2 = a := by omega
        have ne' : ¬ a = j2 := by omega
        go_wp2_with fail
        go_region
        all_goals go_wp2_with fail
        exact bodyPost_ret (v := .tuple #[.int .i64 (j2 : Nat), .bool true]) (by simp [results, Tryz.results124, go_sem]) rfl (by rw [EN.out]; exact ⟨rfl, NY.out 1⟩)
    · have d1 : decide ((j2 : Int) < (i2 : Int)) = false := decide_eq_false (by omega)
      have lt := part_scans_lt ltInt a (a + 1) m (swp d a p) (by omega) I2.out.symm J2.out.symm (by omega)
      obtain ⟨jF, dF, hR⟩ : ∃ jF dF, partLoop ltInt a (i2 + 1) (j2 - 1) (swp (swp d a p) i2 j2) = (jF, dF) := ⟨_, _, rfl⟩
      have EN : Hid (partition ltInt d a (m + 1) p = (jF, false, swp dF jF a)) := Lib.hid (by rw [part_first_go ltInt d a (m + 1) p rfl rfl rfl I2.out.symm J2.out.symm (by omega), hR])
      have HR := Lib.hid hR
      have NZ := Lib.hid (fun q => P3.out.swapG HG3.out (i := i2) (j := j2) (by omega) (by omega) q)
      have hcw := P3.out.cells HH.out HN.out HG3.out
      have hfw := P3.out.frees HH.out HN.out
      have ne : ¬ i2 = j2 := by omega
      have ne' : ¬ j2 = i2 := by omega
      have bi : i2 < n := by omega
      have bj : j2 < n := by omega
      have FACT : Hid (a < i2 + 1 ∧ i2 + 1 ≤ j2 - 1 + 1 ∧ j2 - 1 < m + 1 ∧ i2 < j2 ∧ j2 ≤ m) := Lib.hid (by omega)
      have BND : Hid (m + 1 ≤ n) := Lib.hid hb
      obtain ⟨W, eW⟩ : ∃ W, W = w2 := ⟨_, rfl⟩
      subst eW
      clear hR P3 HG3 I2 J2
      go_wp2_with fail
      clear g1 g2 g3 g4 hb lt c d1
      go_region
      all_goals go_wp2_with fail
      clear hcw hfw
      rename_i K3 hK3
      refine pt_loop _ _ w _ blk off cap n a (m + 1) (i2 + 1) (j2 - 1) jF d (swp (swp d a p) i2 j2) dF HH.out HN.out FACT.out.1 FACT.out.2.1 FACT.out.2.2.1 BND.out hsz (NZ.out 1) HR.out _ _ (by go_num) (by have fz := FACT.out; congr 1; omega) _ _ _ _ _ _ _ _ _ _ _ _ _ _ _ _ _ _ _ _ _ _ _ _ _ _ _ _ _ _ _ _ _ _ _ _ _ _ _ _ _ _ _ _ _ _ _ _ _ _ _ _ _ _ _ _ _ _ _ _ _ _ _ _ _ _ _ _ _ _ _ _ _ _ _ _ _ _ _ _ _ _ _ _ _ _ _ _ _ _ _ _ _ _ _ _ _ _ _ _ _ _ _ _ _ _ _ _ _ _ _ _ _ _ _ _ _ _ _ _ _ _ _ _ _ _ _ _ _ _ _ _ _ _ _ _ _ _ _ _ _ _ _ _ _ _ _ _ _ _ _ _ _ _ _ _ _ _ _ _ _ _ _ _ ?hq3
      case hq3 =>
      intro v10 v99 v100 v101 v102 v103 v104 v105 v106 v107 v108 v109 v110 v111 v112 v113 v114 v115 v116 v117 v118 v119 v120 v121 v122 v123 v124 v125 v126 v127 v128 v129 v130 v131 v132 v133 v134 v135 v136 v137 v138 v139 v140 v141 v142 v143 v144 v145 v146 v147 v148 v149 v150 v151 v152 w3 PF f1 f2
      have P3 := Lib.hid PF
      have BN := BND.out
      obtain ⟨G3, hG3⟩ : ∃ G : Nat → Int, ∀ t, G t = dF[t]! := ⟨fun t => dF[t]!, fun _ => rfl⟩
      have HG3 := Lib.hid hG3
      clear hG3 PF HR NZ FACT bi bj ne ne'
      refine hK3 _ _ ?_
      clear hK3
      have NY := Lib.hid (fun q => P3.out.swapG HG3.out (i := jF) (j := a) (by omega) (by omega) q)
      have hcw := P3.out.cells HH.out HN.out HG3.out
      have hfw := P3.out.frees HH.out HN.out
      have bj : jF < n := by omega
      have ba : a < n := by omega
      obtain ⟨W, eW⟩ : ∃ W, W = w3 := ⟨_, rfl⟩
      subst eW
      clear P3 HG3
      rcases Nat.eq_or_lt_of_le (show a ≤ jF by omega) with aj | aj
      · subst aj
        go_wp2_with fail
        go_region
        all_goals go_wp2_with fail
        exact bodyPost_ret (v := .tuple #[.int .i64 (a : Nat), .bool false]) (by simp [results, Tryz.results124, go_sem]) rfl (by rw [EN.out]; exact ⟨rfl, NY.out 1⟩)
      · have ne : ¬ jF = a := by omega
        have ne' : ¬ a = jF := by omega
        go_wp2_with fail
        go_region
        all_goals go_wp2_with fail
        exact bodyPost_ret (v := .tuple #[.int .i64 (jF : Nat), .bool false]) (by simp [results, Tryz.results124, go_sem]) rfl (by rw [EN.out]; exact ⟨rfl, NY.out 1⟩)

end Go.Proofs.YtombnejipaoinaaGreat

namespace Go.Proofs.YtombnejipaoinaaGreat
open Go.RowKit Go.Sort

/-- Q, but at a panic for every frame: an end that may be abstract -/
def PF (Q : Exit → Act → World → Prop) : Exit → Act → World → Prop
  | .panic x, _, w => ∀ a, Q (.panic x) a w
  | e, a, w => Q e a w
theorem PF.le (Q : Exit → Act → World → Prop) : ∀ e a w, PF Q e a w → Q e a w := by
  intro e a w h
  cases e <;> first | exact h | exact h a

noncomputable def piBody (i : Nat) : Code := ((Tryz.f121.body.map outLoopsU).getD []).getD i .skip
noncomputable def piIn (i : Nat) : Code := (outLoopsU (piBody 0)).getD i .skip

set_option maxHeartbeats 16000000 in
set_option maxRecDepth 100000 in
theorem pi_scan (Q : Exit → Act → World → Prop) (w WS : World) (blk off cap n a b i : Nat) (d0 dk : Array Int) (hH : Holds eU w blk off d0) (hs : d0.size = n) (hai : a < i) (hib : i ≤ b) (hbn : b ≤ n) (hsz : n < 4611686018427387904) (P : PutN w blk off n dk WS) (si : Value) (hsi : si = .int .i64 (i : Int)) (u1 u3 u4 u5 u6 u8 u9 u10 u11 u12 u13 u14 u15 u16 u17 u18 u19 u20 u21 u22 u23 u24 u25 u26 u27 u28 u29 u30 u31 u32 u33 u34 u35 u36 u37 u38 u39 u40 u41 u42 u43 u44 u45 u46 u47 u48 u49 u50 u51 u52 u53 u54 u55 u56 u57 u58 u59 u60 u61 u62 u63 u64 u65 u66 u67 u68 u69 u70 u71 u72 u73 u74 u75 u76 u77 u78 u79 u80 u81 u82 u83 u84 u85 u86 u87 u88 u89 u90 u91 u92 u93 u94 u95 u96 u97 u98 u99 u100 u101 u102 u103 u104 u105 u106 u107 u108 u109 u110 u111 u112 u113 u114 u115 u116 u117 u118 u119 u120 u121 u122 u123 u124 u125 u126 u127 u128 u129 u130 u131 u132 : Value)
    (HQ0 : ∀ (v17 v18 v19 v20 v21 v22 v23 v24 v25 v26 v27 v28 v29 v30 v31 v32 v33 v34 : Value) (w' : World), PutN w blk off n dk w' → i ≤ scanSorted ltInt dk b i → scanSorted ltInt dk b i ≤ b → Q (.exit 2) ⟨#[.slice (some ⟨blk, off, none⟩) n cap, u1, .int .i64 (b : Int), u3, u4, u5, u6, .int .i64 ((scanSorted ltInt dk b i : Nat) : Int), u8, u9, u10, u11, u12, u13, u14, u15, u16, v17, v18, v19, v20, v21, v22, v23, v24, v25, v26, v27, v28, v29, v30, v31, v32, v33, v34, u35, u36, u37, u38, u39, u40, u41, u42, u43, u44, u45, u46, u47, u48, u49, u50, u51, u52, u53, u54, u55, u56, u57, u58, u59, u60, u61, u62, u63, u64, u65, u66, u67, u68, u69, u70, u71, u72, u73, u74, u75, u76, u77, u78, u79, u80, u81, u82, u83, u84, u85, u86, u87, u88, u89, u90, u91, u92, u93, u94, u95, u96, u97, u98, u99, u100, u101, u102, u103, u104, u105, u106, u107, u108, u109, u110, u111, u112, u113, u114, u115, u116, u117, u118, u119, u120, u121, u122, u123, u124, u125, u126, u127, u128, u129, u130, u131, u132], []⟩ w') :
    Code.wp Tryz.prog (.loop (piIn 0)) Q ⟨#[.slice (some ⟨blk, off, none⟩) n cap, u1, .int .i64 (b : Int), u3, u4, u5, u6, si, u8, u9, u10, u11, u12, u13, u14, u15, u16, u17, u18, u19, u20, u21, u22, u23, u24, u25, u26, u27, u28, u29, u30, u31, u32, u33, u34, u35, u36, u37, u38, u39, u40, u41, u42, u43, u44, u45, u46, u47, u48, u49, u50, u51, u52, u53, u54, u55, u56, u57, u58, u59, u60, u61, u62, u63, u64, u65, u66, u67, u68, u69, u70, u71, u72, u73, u74, u75, u76, u77, u78, u79, u80, u81, u82, u83, u84, u85, u86, u87, u88, u89, u90, u91, u92, u93, u94, u95, u96, u97, u98, u99, u100, u101, u102, u103, u104, u105, u106, u107, u108, u109, u110, u111, u112, u113, u114, u115, u116, u117, u118, u119, u120, u121, u122, u123, u124, u125, u126, u127, u128, u129, u130, u131, u132], []⟩ WS := by
  subst hsi
  conv => enter [2, 1]; whnf
  have HQ := Lib.hid HQ0
  have HH := Lib.hid hH
  have HS := Lib.hid hs
  have LS := Lib.hid less32
  have P0 := Lib.hid P
  obtain ⟨G, hG⟩ : ∃ G : Nat → Int, ∀ t, G t = dk[t]! := ⟨fun t => dk[t]!, fun _ => rfl⟩
  have HG := Lib.hid hG
  clear HQ0 hH hs P hG
  dsimp only
  go_loopw [7] (fun vi wr => ∃ i2 : Nat, vi = .int .i64 i2 ∧ i ≤ i2 ∧ i2 ≤ b ∧ Hid (PutN w blk off n dk wr ∧ scanSorted ltInt dk b i2 = scanSorted ltInt dk b i)) (fun vi _ => b + 1 - (intOf vi).toNat)
  case atStart => exact ⟨i, rfl, Nat.le_refl _, hib, Lib.hid ⟨P0.out, rfl⟩⟩
  case round =>
    clear P0
    obtain ⟨i2, rfl, h1, h2, S⟩ := hrel
    obtain ⟨k, rfl⟩ : ∃ k, i2 = k + 1 := ⟨i2 - 1, by omega⟩
    obtain ⟨W, eW⟩ : ∃ W, W = wr := ⟨_, rfl⟩
    subst eW
    have hcw := S.out.1.cells HH.out HS.out HG.out
    have t1 : ((k : Int) + 1).toNat = k + 1 := by omega
    have t2 : ((k : Int)).toNat = k := by omega
    have s1 : IntKind.i64.wrap ((k : Int) + 1 - 1) = (k : Int) := by rw [IntWalk.i64_in _ (by omega)]; omega
    by_cases c : k + 1 < b
    · have d1 : decide ((k : Int) + 1 < (b : Int)) = true := decide_eq_true (by omega)
      cases q : ltInt (G (k + 1)) (G k) with
      | false =>
        have NX : Hid (∀ q, PutN w blk off n dk (W.drewN q) ∧ scanSorted ltInt dk b (k + 1 + 1) = scanSorted ltInt dk b i) := Lib.hid (fun _ => ⟨S.out.1.draw _, by rw [← S.out.2]; exact (scanSorted_go ltInt dk b (k + 1) c (by rw [Nat.add_sub_cancel, ← HG.out, ← HG.out, q])).symm⟩)
        have L1 := Lib.hid (fun W => LS.out (G (k + 1)) (G k) W)
        rw [q] at L1
        clear S q LS
        go_wp2_with fail
        go_big_quiet (first | (go_at_call 122; refine Calls.quiet_of_same (L1.out _)))
        go_wp2_with fail
        go_roundw
        case rel => exact ⟨k + 1 + 1, by go_num, by omega, by omega, Lib.hid (NX.out _)⟩
        case measure => simp [intOf]; omega
      | true =>
        have EN : Hid (scanSorted ltInt dk b i = k + 1) := Lib.hid (by rw [← S.out.2]; exact scanSorted_stop ltInt dk b (k + 1) (.inr (by rw [Nat.add_sub_cancel, ← HG.out, ← HG.out, q])))
        have L1 := Lib.hid (fun W => LS.out (G (k + 1)) (G k) W)
        have PN := Lib.hid (fun q => S.out.1.draw q)
        rw [q] at L1
        clear S q LS
        rw [EN.out] at HQ
        go_wp2_with fail
        go_big_quiet (first | (go_at_call 122; refine Calls.quiet_of_same (L1.out _)))
        go_wp2_with fail
        exact HQ.out _ _ _ _ _ _ _ _ _ _ _ _ _ _ _ _ _ _ _ (PN.out _) (by omega) (by omega)
    · have d1 : decide ((k : Int) + 1 < (b : Int)) = false := decide_eq_false (by omega)
      have EN : Hid (scanSorted ltInt dk b i = k + 1) := Lib.hid (by rw [← S.out.2]; exact scanSorted_stop ltInt dk b (k + 1) (.inl c))
      have PN := Lib.hid (fun q => S.out.1.draw q)
      clear S
      rw [EN.out] at HQ
      go_wp2_with fail
      go_big_quiet (first | (go_at_call 122; refine Calls.quiet_of_same (LS.out _ _ _)))
      go_wp2_with fail
      exact HQ.out _ _ _ _ _ _ _ _ _ _ _ _ _ _ _ _ _ _ _ (PN.out _) (by omega) (by omega)

set_option maxHeartbeats 16000000 in
set_option maxRecDepth 100000 in
theorem pi_down (Q : Exit → Act → World → Prop) (w WS : World) (blk off cap n : Nat) (j0 : Nat) (d0 dS : Array Int) (hH : Holds eU w blk off d0) (hs : d0.size = n) (hjn : j0 < n) (hsz : n < 4611686018427387904) (P : PutN w blk off n dS WS) (si : Value) (hsi : si = .int .i64 (j0 : Int)) (u1 u2 u3 u4 u5 u6 u7 u8 u10 u11 u12 u13 u14 u15 u16 u17 u18 u19 u20 u21 u22 u23 u24 u25 u26 u27 u28 u29 u30 u31 u32 u33 u34 u35 u36 u37 u38 u39 u40 u41 u42 u43 u44 u45 u46 u47 u48 u49 u50 u51 u52 u53 u54 u55 u56 u57 u58 u59 u60 u61 u62 u63 u64 u65 u66 u67 u68 u69 u70 u71 u72 u73 u74 u75 u76 u77 u78 u79 u80 u81 u82 u83 u84 u85 u86 u87 u88 u89 u90 u91 u92 u93 u94 u95 u96 u97 u98 u99 u100 u101 u102 u103 u104 u105 u106 u107 u108 u109 u110 u111 u112 u113 u114 u115 u116 u117 u118 u119 u120 u121 u122 u123 u124 u125 u126 u127 u128 u129 u130 u131 u132 : Value)
    (HQ0 : ∀ (v9 v64 v65 v66 v67 v68 v69 v70 v71 v72 v73 v74 v75 v76 v77 v78 v79 v80 v81 v82 v83 v84 v85 v86 v87 v88 v89 v90 v91 v92 v93 v94 : Value) (w' : World), PutN w blk off n (shiftDown ltInt j0 dS) w' → Q (.exit 4) ⟨#[.slice (some ⟨blk, off, none⟩) n cap, u1, u2, u3, u4, u5, u6, u7, u8, v9, u10, u11, u12, u13, u14, u15, u16, u17, u18, u19, u20, u21, u22, u23, u24, u25, u26, u27, u28, u29, u30, u31, u32, u33, u34, u35, u36, u37, u38, u39, u40, u41, u42, u43, u44, u45, u46, u47, u48, u49, u50, u51, u52, u53, u54, u55, u56, u57, u58, u59, u60, u61, u62, u63, v64, v65, v66, v67, v68, v69, v70, v71, v72, v73, v74, v75, v76, v77, v78, v79, v80, v81, v82, v83, v84, v85, v86, v87, v88, v89, v90, v91, v92, v93, v94, u95, u96, u97, u98, u99, u100, u101, u102, u103, u104, u105, u106, u107, u108, u109, u110, u111, u112, u113, u114, u115, u116, u117, u118, u119, u120, u121, u122, u123, u124, u125, u126, u127, u128, u129, u130, u131, u132], []⟩ w') :
    Code.wp Tryz.prog (.loop (piIn 1)) Q ⟨#[.slice (some ⟨blk, off, none⟩) n cap, u1, u2, u3, u4, u5, u6, u7, u8, si, u10, u11, u12, u13, u14, u15, u16, u17, u18, u19, u20, u21, u22, u23, u24, u25, u26, u27, u28, u29, u30, u31, u32, u33, u34, u35, u36, u37, u38, u39, u40, u41, u42, u43, u44, u45, u46, u47, u48, u49, u50, u51, u52, u53, u54, u55, u56, u57, u58, u59, u60, u61, u62, u63, u64, u65, u66, u67, u68, u69, u70, u71, u72, u73, u74, u75, u76, u77, u78, u79, u80, u81, u82, u83, u84, u85, u86, u87, u88, u89, u90, u91, u92, u93, u94, u95, u96, u97, u98, u99, u100, u101, u102, u103, u104, u105, u106, u107, u108, u109, u110, u111, u112, u113, u114, u115, u116, u117, u118, u119, u120, u121, u122, u123, u124, u125, u126, u127, u128, u129, u130, u131, u132], []⟩ WS := by
  subst hsi
  conv => enter [2, 1]; whnf
  have HQ := Lib.hid HQ0
  have HH := Lib.hid hH
  have HS := Lib.hid hs
  have LS := Lib.hid less32
  have P0 := Lib.hid P
  clear HQ0 hH hs P
  refine Code.wp_mono (PF.le Q) ?_
  dsimp only
  go_loopw [9] (fun vi wr => ∃ (j2 : Nat) (dk : Array Int), vi = .int .i64 j2 ∧ j2 ≤ j0 ∧ Hid (PutN w blk off n dk wr ∧ shiftDown ltInt j2 dk = shiftDown ltInt j0 dS)) (fun vi _ => (intOf vi).toNat)
  case atStart => exact ⟨j0, dS, rfl, Nat.le_refl _, Lib.hid ⟨P0.out, rfl⟩⟩
  case round =>
    clear P0
    obtain ⟨j2, dk, rfl, h1, S⟩ := hrel
    obtain ⟨G, hG⟩ : ∃ G : Nat → Int, ∀ t, G t = dk[t]! := ⟨fun t => dk[t]!, fun _ => rfl⟩
    have HG := Lib.hid hG
    clear hG
    cases j2 with
    | succ k =>
      obtain ⟨W, eW⟩ : ∃ W, W = wr := ⟨_, rfl⟩
      subst eW
      have hcw := S.out.1.cells HH.out HS.out HG.out
      have hfw := S.out.1.frees HH.out HS.out
      have t1 : ((k : Int) + 1).toNat = k + 1 := by omega
      have t2 : ((k : Int)).toNat = k := by omega
      have s1 : IntKind.i64.wrap ((k : Int) + 1 - 1) = (k : Int) := by rw [IntWalk.i64_in _ (by omega)]; omega
      have bk : k < n := by omega
      have bk1 : k + 1 < n := by omega
      have ne1 : ¬ k = k + 1 := by omega
      have ne2 : ¬ k + 1 = k := by omega
      have d1 : decide ((1 : Int) ≤ (k : Int) + 1) = true := decide_eq_true (by omega)
      have RES : Hid (shiftDown ltInt (k + 1) dk = shiftDown ltInt j0 dS) := Lib.hid S.out.2
      cases q : ltInt (G (k + 1)) (G k) with
      | true =>
        have EQ : Hid (shiftDown ltInt (k) (swp dk (k + 1) k) = shiftDown ltInt j0 dS) := Lib.hid (by rw [← RES.out, shiftDown_go ltInt (k + 1) dk (by omega) (by rw [Nat.add_sub_cancel, ← HG.out, ← HG.out, q]), Nat.add_sub_cancel])
        have SW := Lib.hid (fun W2 (h : PutN w blk off n dk W2) q => h.swapG HG.out (i := k + 1) (j := k) (by omega) (by omega) q)
        have PD := Lib.hid (fun q => S.out.1.draw q)
        have L1 := Lib.hid (fun W => LS.out (G (k + 1)) (G k) W)
        rw [q] at L1
        clear S q LS RES
        go_wp2_with fail
        go_big_quiet (first | (go_at_call 122; refine Calls.quiet_of_same (L1.out _)))
        go_wp2_with fail
        revert nq; intro nq1
        have hcw2 : ∀ t, t < n → (W.drewN nq1).cell? ⟨blk, off + t, none⟩ = some (.int .u32 (G t)) := hcw
        have hfw2 : ∀ t, t < n → (W.drewN nq1).frozen? ⟨blk, off + t, none⟩ = false := hfw
        have NX := Lib.hid (fun q => SW.out _ (PD.out nq1) q)
        clear hcw hfw PD SW
        generalize W.drewN nq1 = W2 at *
        go_region
        all_goals go_wp2_with fail
        go_roundw
        case rel => exact ⟨k, _, by go_num, by omega, Lib.hid ⟨NX.out 1, EQ.out⟩⟩
        case measure => simp [intOf]
      | false =>
        have EN : Hid (shiftDown ltInt j0 dS = dk) := Lib.hid (by rw [← RES.out]; exact shiftDown_stop ltInt (k + 1) dk (.inr (by rw [Nat.add_sub_cancel, ← HG.out, ← HG.out, q])))
        have L1 := Lib.hid (fun W => LS.out (G (k + 1)) (G k) W)
        have PN := Lib.hid (fun q => S.out.1.draw q)
        rw [q] at L1
        clear S q LS RES
        rw [EN.out] at HQ
        go_wp2_with fail
        go_big_quiet (first | (go_at_call 122; refine Calls.quiet_of_same (L1.out _)))
        go_wp2_with fail
        exact HQ.out _ _ _ _ _ _ _ _ _ _ _ _ _ _ _ _ _ _ _ _ _ _ _ _ _ _ _ _ _ _ _ _ _ (PN.out _)
    | zero =>
      have EN : Hid (shiftDown ltInt j0 dS = dk) := Lib.hid (by rw [← S.out.2]; exact shiftDown_stop ltInt 0 dk (.inl rfl))
      have PN := Lib.hid S.out.1
      clear S
      rw [EN.out] at HQ
      go_wp2_with fail
      exact HQ.out _ _ _ _ _ _ _ _ _ _ _ _ _ _ _ _ _ _ _ _ _ _ _ _ _ _ _ _ _ _ _ _ _ PN.out

set_option maxHeartbeats 16000000 in
set_option maxRecDepth 100000 in
theorem pi_up (Q : Exit → Act → World → Prop) (w WS : World) (blk off cap n : Nat) (b : Nat) (j0 : Nat) (d0 dS : Array Int) (hH : Holds eU w blk off d0) (hs : d0.size = n) (h1i : 1 ≤ j0) (hjb : j0 ≤ b) (hbn : b ≤ n) (hsz : n < 4611686018427387904) (P : PutN w blk off n dS WS) (si : Value) (hsi : si = .int .i64 (j0 : Int)) (u1 u3 u4 u5 u6 u7 u8 u9 u11 u12 u13 u14 u15 u16 u17 u18 u19 u20 u21 u22 u23 u24 u25 u26 u27 u28 u29 u30 u31 u32 u33 u34 u35 u36 u37 u38 u39 u40 u41 u42 u43 u44 u45 u46 u47 u48 u49 u50 u51 u52 u53 u54 u55 u56 u57 u58 u59 u60 u61 u62 u63 u64 u65 u66 u67 u68 u69 u70 u71 u72 u73 u74 u75 u76 u77 u78 u79 u80 u81 u82 u83 u84 u85 u86 u87 u88 u89 u90 u91 u92 u93 u94 u95 u96 u97 u98 u99 u100 u101 u102 u103 u104 u105 u106 u107 u108 u109 u110 u111 u112 u113 u114 u115 u116 u117 u118 u119 u120 u121 u122 u123 u124 u125 u126 u127 u128 u129 u130 u131 u132 : Value)
    (HQ0 : ∀ (v10 v101 v102 v103 v104 v105 v106 v107 v108 v109 v110 v111 v112 v113 v114 v115 v116 v117 v118 v119 v120 v121 v122 v123 v124 v125 v126 v127 v128 v129 v130 v131 v132 : Value) (w' : World), PutN w blk off n (shiftUp ltInt b j0 dS) w' → Q (.exit 6) ⟨#[.slice (some ⟨blk, off, none⟩) n cap, u1, .int .i64 (b : Int), u3, u4, u5, u6, u7, u8, u9, v10, u11, u12, u13, u14, u15, u16, u17, u18, u19, u20, u21, u22, u23, u24, u25, u26, u27, u28, u29, u30, u31, u32, u33, u34, u35, u36, u37, u38, u39, u40, u41, u42, u43, u44, u45, u46, u47, u48, u49, u50, u51, u52, u53, u54, u55, u56, u57, u58, u59, u60, u61, u62, u63, u64, u65, u66, u67, u68, u69, u70, u71, u72, u73, u74, u75, u76, u77, u78, u79, u80, u81, u82, u83, u84, u85, u86, u87, u88, u89, u90, u91, u92, u93, u94, u95, u96, u97, u98, u99, u100, v101, v102, v103, v104, v105, v106, v107, v108, v109, v110, v111, v112, v113, v114, v115, v116, v117, v118, v119, v120, v121, v122, v123, v124, v125, v126, v127, v128, v129, v130, v131, v132], []⟩ w') :
    Code.wp Tryz.prog (.loop (piIn 2)) Q ⟨#[.slice (some ⟨blk, off, none⟩) n cap, u1, .int .i64 (b : Int), u3, u4, u5, u6, u7, u8, u9, si, u11, u12, u13, u14, u15, u16, u17, u18, u19, u20, u21, u22, u23, u24, u25, u26, u27, u28, u29, u30, u31, u32, u33, u34, u35, u36, u37, u38, u39, u40, u41, u42, u43, u44, u45, u46, u47, u48, u49, u50, u51, u52, u53, u54, u55, u56, u57, u58, u59, u60, u61, u62, u63, u64, u65, u66, u67, u68, u69, u70, u71, u72, u73, u74, u75, u76, u77, u78, u79, u80, u81, u82, u83, u84, u85, u86, u87, u88, u89, u90, u91, u92, u93, u94, u95, u96, u97, u98, u99, u100, u101, u102, u103, u104, u105, u106, u107, u108, u109, u110, u111, u112, u113, u114, u115, u116, u117, u118, u119, u120, u121, u122, u123, u124, u125, u126, u127, u128, u129, u130, u131, u132], []⟩ WS := by
  subst hsi
  conv => enter [2, 1]; whnf
  have HQ := Lib.hid HQ0
  have HH := Lib.hid hH
  have HS := Lib.hid hs
  have LS := Lib.hid less32
  have P0 := Lib.hid P
  clear HQ0 hH hs P
  refine Code.wp_mono (PF.le Q) ?_
  dsimp only
  go_loopw [10] (fun vi wr => ∃ (j2 : Nat) (dk : Array Int), vi = .int .i64 j2 ∧ j0 ≤ j2 ∧ j2 ≤ b ∧ Hid (PutN w blk off n dk wr ∧ shiftUp ltInt b j2 dk = shiftUp ltInt b j0 dS)) (fun vi _ => b + 1 - (intOf vi).toNat)
  case atStart => exact ⟨j0, dS, rfl, Nat.le_refl _, hjb, Lib.hid ⟨P0.out, rfl⟩⟩
  case round =>
    clear P0
    obtain ⟨j2, dk, rfl, h1, h2, S⟩ := hrel
    obtain ⟨G, hG⟩ : ∃ G : Nat → Int, ∀ t, G t = dk[t]! := ⟨fun t => dk[t]!, fun _ => rfl⟩
    have HG := Lib.hid hG
    clear hG
    obtain ⟨k, rfl⟩ : ∃ k, j2 = k + 1 := ⟨j2 - 1, by omega⟩
    by_cases c : k + 1 < b
    · obtain ⟨W, eW⟩ : ∃ W, W = wr := ⟨_, rfl⟩
      subst eW
      have hcw := S.out.1.cells HH.out HS.out HG.out
      have hfw := S.out.1.frees HH.out HS.out
      have t1 : ((k : Int) + 1).toNat = k + 1 := by omega
      have t2 : ((k : Int)).toNat = k := by omega
      have s1 : IntKind.i64.wrap ((k : Int) + 1 - 1) = (k : Int) := by rw [IntWalk.i64_in _ (by omega)]; omega
      have bk : k < n := by omega
      have bk1 : k + 1 < n := by omega
      have ne1 : ¬ k = k + 1 := by omega
      have ne2 : ¬ k + 1 = k := by omega
      have d1 : decide ((k : Int) + 1 < (b : Int)) = true := decide_eq_true (by omega)
      have RES : Hid (shiftUp ltInt b (k + 1) dk = shiftUp ltInt b j0 dS) := Lib.hid S.out.2
      cases q : ltInt (G (k + 1)) (G k) with
      | true =>
        have EQ : Hid (shiftUp ltInt b (k + 1 + 1) (swp dk (k + 1) k) = shiftUp ltInt b j0 dS) := Lib.hid (by rw [← RES.out, shiftUp_go ltInt b (k + 1) dk c (by rw [Nat.add_sub_cancel, ← HG.out, ← HG.out, q]), Nat.add_sub_cancel])
        have SW := Lib.hid (fun W2 (h : PutN w blk off n dk W2) q => h.swapG HG.out (i := k + 1) (j := k) (by omega) (by omega) q)
        have PD := Lib.hid (fun q => S.out.1.draw q)
        have L1 := Lib.hid (fun W => LS.out (G (k + 1)) (G k) W)
        rw [q] at L1
        clear S q LS RES
        go_wp2_with fail
        go_big_quiet (first | (go_at_call 122; refine Calls.quiet_of_same (L1.out _)))
        go_wp2_with fail
        revert nq; intro nq1
        have hcw2 : ∀ t, t < n → (W.drewN nq1).cell? ⟨blk, off + t, none⟩ = some (.int .u32 (G t)) := hcw
        have hfw2 : ∀ t, t < n → (W.drewN nq1).frozen? ⟨blk, off + t, none⟩ = false := hfw
        have NX := Lib.hid (fun q => SW.out _ (PD.out nq1) q)
        clear hcw hfw PD SW
        generalize W.drewN nq1 = W2 at *
        go_region
        all_goals go_wp2_with fail
        go_roundw
        case rel => exact ⟨k + 1 + 1, _, by go_num, by omega, by omega, Lib.hid ⟨NX.out 1, EQ.out⟩⟩
        case measure => simp [intOf]; omega
      | false =>
        have EN : Hid (shiftUp ltInt b j0 dS = dk) := Lib.hid (by rw [← RES.out]; exact shiftUp_stop ltInt b (k + 1) dk (.inr (by rw [Nat.add_sub_cancel, ← HG.out, ← HG.out, q])))
        have L1 := Lib.hid (fun W => LS.out (G (k + 1)) (G k) W)
        have PN := Lib.hid (fun q => S.out.1.draw q)
        rw [q] at L1
        clear S q LS RES
        rw [EN.out] at HQ
        go_wp2_with fail
        go_big_quiet (first | (go_at_call 122; refine Calls.quiet_of_same (L1.out _)))
        go_wp2_with fail
        exact HQ.out _ _ _ _ _ _ _ _ _ _ _ _ _ _ _ _ _ _ _ _ _ _ _ _ _ _ _ _ _ _ _ _ _ _ (PN.out _)
    · have d1 : decide ((k : Int) + 1 < (b : Int)) = false := decide_eq_false (by omega)
      have EN : Hid (shiftUp ltInt b j0 dS = dk) := Lib.hid (by rw [← S.out.2]; exact shiftUp_stop ltInt b (k + 1) dk (.inl c))
      have PN := Lib.hid S.out.1
      clear S
      rw [EN.out] at HQ
      go_wp2_with fail
      exact HQ.out _ _ _ _ _ _ _ _ _ _ _ _ _ _ _ _ _ _ _ _ _ _ _ _ _ _ _ _ _ _ _ _ _ _ PN.out

end Go.Proofs.YtombnejipaoinaaGreat

namespace Go.Proofs.YtombnejipaoinaaGreat
open Go.RowKit Go.Sort

set_option maxHeartbeats 16000000 in
set_option maxRecDepth 100000 in
theorem pins32 (blk off cap n a b : Nat) (d : Array Int) (w : World) (hH : Holds eU w blk off d) (hn : d.size = n) (hab : a < b) (hb : b ≤ n) (hsz : n < 4611686018427387904) :
    Calls Tryz.prog 121 #[.slice (some ⟨blk, off, none⟩) n cap, .int .i64 a, .int .i64 b] w fun e w' =>
      e = .returned (.bool (partialInsertionSort ltInt d a b).2) ∧ PutN w blk off n (partialInsertionSort ltInt d a b).1 w' := by
  have HH := Lib.hid hH
  have HN := Lib.hid hn
  have P0 : Hid (PutN w blk off n d w) := Lib.hid ⟨hn, Put.refl hH⟩
  obtain ⟨dF, tF, hR⟩ : ∃ dF tF, partialInsertionSort ltInt d a b = (dF, tF) := ⟨_, _, rfl⟩
  rw [hR]
  have HR : Hid (partialIns ltInt a b (5 - 0) (a + 1) d = (dF, tF)) := Lib.hid hR
  clear hH hn hR
  go_enter Tryz.func121, Tryz.ntmps121
  go_wp2_with fail
  go_loopw [7, 8] (fun vi vs wr => ∃ (i s : Nat) (di : Array Int), vi = .int .i64 i ∧ vs = .int .i64 s ∧ a < i ∧ i ≤ b ∧ s ≤ 5 ∧ Hid (PutN w blk off n di wr ∧ partialIns ltInt a b (5 - s) i di = (dF, tF))) (fun _ vs _ => 6 - (intOf vs).toNat)
  case atStart => exact ⟨a + 1, 0, d, by go_num, rfl, by omega, by omega, by omega, Lib.hid ⟨P0.out, HR.out⟩⟩
  case round =>
    clear P0 HR
    obtain ⟨i, s, di, rfl, rfl, hai, hib, hs5, RR⟩ := hrel
    by_cases c5 : s < 5
    · have d5 : decide ((s : Int) < 5) = true := decide_eq_true (by omega)
      go_wp2_with fail
      rename_i KO hKO K hK
      refine pi_scan _ w _ blk off cap n a b i d di HH.out HN.out hai hib hb hsz RR.out.1 _ rfl _ _ _ _ _ _ _ _ _ _ _ _ _ _ _ _ _ _ _ _ _ _ _ _ _ _ _ _ _ _ _ _ _ _ _ _ _ _ _ _ _ _ _ _ _ _ _ _ _ _ _ _ _ _ _ _ _ _ _ _ _ _ _ _ _ _ _ _ _ _ _ _ _ _ _ _ _ _ _ _ _ _ _ _ _ _ _ _ _ _ _ _ _ _ _ _ _ _ _ _ _ _ _ _ _ _ _ _ _ _ _ _ _ _ _ _ _ _ _ _ _ _ _ _ _ _ _ _ _ _ ?hq
      case hq =>
      intro v17 v18 v19 v20 v21 v22 v23 v24 v25 v26 v27 v28 v29 v30 v31 v32 v33 v34 w1 P1 g1 g2
      generalize hk : scanSorted ltInt di b i = k at g1 g2 ⊢
      have HP1 := Lib.hid P1
      have HK := Lib.hid hk
      have EQ := Lib.hid RR.out.2
      clear P1 hk RR
      refine hK _ _ ?_
      clear hK
      by_cases kb : k = b
      · subst kb
        have EN := (EQ.out.symm.trans (pi_true ltInt a k s i di c5 HK.out))
        injection EN with e1 e2
        subst e1 e2
        go_wp2_with fail
        go_returns
        exact ⟨rfl, HP1.out⟩
      · have kb' : ((k : Int) == (b : Int)) = false := by simp; omega
        obtain ⟨l, hl⟩ : ∃ l : Nat, (b : Int) - (a : Int) = (l : Int) := ⟨b - a, by omega⟩
        by_cases c50 : l < 50
        · have EN := (EQ.out.symm.trans (pi_short ltInt a b s i di c5 (by rw [HK.out]; exact kb) (by omega)))
          have d50 : decide ((l : Int) < 50) = true := decide_eq_true (by omega)
          injection EN with e1 e2
          subst e1 e2
          go_wp2_with fail
          go_returns
          exact ⟨rfl, HP1.out⟩
        · have d50 : decide ((l : Int) < 50) = false := decide_eq_false (by omega)
          have EQ2 : Hid (partialIns ltInt a b (5 - (s + 1)) k (fixUp ltInt b k (fixDown ltInt a k (swp di k (k - 1)))) = (dF, tF)) := Lib.hid (by rw [← EQ.out, pi_go ltInt a b s i k di c5 HK.out kb (by omega)])
          obtain ⟨G, hG⟩ : ∃ G : Nat → Int, ∀ t, G t = di[t]! := ⟨fun t => di[t]!, fun _ => rfl⟩
          have HG := Lib.hid hG
          clear EQ HK hG
          obtain ⟨m, rfl⟩ : ∃ m, k = m + 1 := ⟨k - 1, by omega⟩
          have hcw := HP1.out.cells HH.out HN.out HG.out
          have hfw := HP1.out.frees HH.out HN.out
          have NX := Lib.hid (fun q => HP1.out.swapG HG.out (i := m + 1) (j := m) (by omega) (by omega) q)
          have t1 : ((m : Int) + 1).toNat = m + 1 := by omega
          have t2 : ((m : Int)).toNat = m := by omega
          have s1 : IntKind.i64.wrap ((m : Int) + 1 - 1) = (m : Int) := by rw [IntWalk.i64_in _ (by omega)]; omega
          have ne1 : ¬ m = m + 1 := by omega
          have ne2 : ¬ m + 1 = m := by omega
          have b1 : m < n := by omega
          have b2 : m + 1 < n := by omega
          obtain ⟨W, eW⟩ : ∃ W, W = w1 := ⟨_, rfl⟩
          subst eW
          have EQ2 := EQ2.out
          rw [Nat.add_sub_cancel] at EQ2
          clear HP1 HG
          by_cases c2 : m + 1 - a ≥ 2
          · by_cases c3 : b - (m + 1) ≥ 2
            · have DD : fixDown ltInt a (m + 1) (swp di (m + 1) m) = shiftDown ltInt m (swp di (m + 1) m) := by unfold fixDown; rw [if_pos c2, Nat.add_sub_cancel]
              have UU : ∀ x : Array Int, fixUp ltInt b (m + 1) x = shiftUp ltInt b (m + 1 + 1) x := fun x => by unfold fixUp; rw [if_pos c3]
              rw [UU, DD] at EQ2
              clear DD UU
              have EQ3 := Lib.hid EQ2
              clear EQ2
              have d2 : decide ((2 : Int) ≤ (m : Int) + 1 - (a : Int)) = true := decide_eq_true (by omega)
              have d3 : decide ((2 : Int) ≤ (b : Int) - ((m : Int) + 1)) = true := decide_eq_true (by omega)
              have FACT : Hid (a < m + 1 ∧ m + 1 ≤ b ∧ s + 1 ≤ 5 ∧ m + 1 + 1 ≤ b ∧ b ≤ n ∧ 1 ≤ m + 1 + 1 ∧ m < n) := Lib.hid (by omega)
              go_wp2_with fail
              go_region
              all_goals go_wp2_with fail
              clear hcw hfw
              have PX := Lib.hid (NX.out 1)
              clear NX
              rename_i K2 hK2
              refine pi_down _ w _ blk off cap n m d (swp di (m + 1) m) HH.out HN.out FACT.out.2.2.2.2.2.2 hsz PX.out _ rfl _ _ _ _ _ _ _ _ _ _ _ _ _ _ _ _ _ _ _ _ _ _ _ _ _ _ _ _ _ _ _ _ _ _ _ _ _ _ _ _ _ _ _ _ _ _ _ _ _ _ _ _ _ _ _ _ _ _ _ _ _ _ _ _ _ _ _ _ _ _ _ _ _ _ _ _ _ _ _ _ _ _ _ _ _ _ _ _ _ _ _ _ _ _ _ _ _ _ _ _ _ _ _ _ _ _ _ _ _ _ _ _ _ _ _ _ _ _ _ _ _ _ _ _ _ _ _ _ _ _ _ ?hq2
              case hq2 =>
              intro v9 v64 v65 v66 v67 v68 v69 v70 v71 v72 v73 v74 v75 v76 v77 v78 v79 v80 v81 v82 v83 v84 v85 v86 v87 v88 v89 v90 v91 v92 v93 v94 w2 P2
              have PX2 := Lib.hid P2
              clear P2 PX
              refine hK2 _ _ ?_
              clear hK2
              go_wp2_with fail
              refine pi_up _ w _ blk off cap n b (m + 1 + 1) d _ HH.out HN.out FACT.out.2.2.2.2.2.1 FACT.out.2.2.2.1 FACT.out.2.2.2.2.1 hsz PX2.out _ (by go_num) _ _ _ _ _ _ _ _ _ _ _ _ _ _ _ _ _ _ _ _ _ _ _ _ _ _ _ _ _ _ _ _ _ _ _ _ _ _ _ _ _ _ _ _ _ _ _ _ _ _ _ _ _ _ _ _ _ _ _ _ _ _ _ _ _ _ _ _ _ _ _ _ _ _ _ _ _ _ _ _ _ _ _ _ _ _ _ _ _ _ _ _ _ _ _ _ _ _ _ _ _ _ _ _ _ _ _ _ _ _ _ _ _ _ _ _ _ _ _ _ _ _ _ _ _ _ _ _ _ _ ?hq3
              case hq3 =>
              intro v10 v101 v102 v103 v104 v105 v106 v107 v108 v109 v110 v111 v112 v113 v114 v115 v116 v117 v118 v119 v120 v121 v122 v123 v124 v125 v126 v127 v128 v129 v130 v131 v132 w3 P3
              have PX3 := Lib.hid P3
              clear P3 PX2
              refine hKO _ _ ?_
              go_wp2_with fail
              go_roundw
              case rel => exact ⟨m + 1, s + 1, _, by go_num, by go_num, FACT.out.1, FACT.out.2.1, FACT.out.2.2.1, Lib.hid ⟨PX3.out, EQ3.out⟩⟩
              case measure => simp [intOf]; have := FACT.out; omega
            · have DD : fixDown ltInt a (m + 1) (swp di (m + 1) m) = shiftDown ltInt m (swp di (m + 1) m) := by unfold fixDown; rw [if_pos c2, Nat.add_sub_cancel]
              have UU : ∀ x : Array Int, fixUp ltInt b (m + 1) x = x := fun x => by unfold fixUp; rw [if_neg c3]
              rw [UU, DD] at EQ2
              clear DD UU
              have EQ3 := Lib.hid EQ2
              clear EQ2
              have d2 : decide ((2 : Int) ≤ (m : Int) + 1 - (a : Int)) = true := decide_eq_true (by omega)
              have d3 : decide ((2 : Int) ≤ (b : Int) - ((m : Int) + 1)) = false := decide_eq_false (by omega)
              have FACT : Hid (a < m + 1 ∧ m + 1 ≤ b ∧ s + 1 ≤ 5 ∧ m + 1 + 1 ≤ b ∧ b ≤ n ∧ 1 ≤ m + 1 + 1 ∧ m < n) := Lib.hid (by omega)
              go_wp2_with fail
              go_region
              all_goals go_wp2_with fail
              clear hcw hfw
              have PX := Lib.hid (NX.out 1)
              clear NX
              rename_i K2 hK2
              refine pi_down _ w _ blk off cap n m d (swp di (m + 1) m) HH.out HN.out FACT.out.2.2.2.2.2.2 hsz PX.out _ rfl _ _ _ _ _ _ _ _ _ _ _ _ _ _ _ _ _ _ _ _ _ _ _ _ _ _ _ _ _ _ _ _ _ _ _ _ _ _ _ _ _ _ _ _ _ _ _ _ _ _ _ _ _ _ _ _ _ _ _ _ _ _ _ _ _ _ _ _ _ _ _ _ _ _ _ _ _ _ _ _ _ _ _ _ _ _ _ _ _ _ _ _ _ _ _ _ _ _ _ _ _ _ _ _ _ _ _ _ _ _ _ _ _ _ _ _ _ _ _ _ _ _ _ _ _ _ _ _ _ _ _ ?hq2
              case hq2 =>
              intro v9 v64 v65 v66 v67 v68 v69 v70 v71 v72 v73 v74 v75 v76 v77 v78 v79 v80 v81 v82 v83 v84 v85 v86 v87 v88 v89 v90 v91 v92 v93 v94 w2 P2
              have PX2 := Lib.hid P2
              clear P2 PX
              refine hK2 _ _ ?_
              clear hK2
              go_wp2_with fail
              go_roundw
              case rel => exact ⟨m + 1, s + 1, _, by go_num, by go_num, FACT.out.1, FACT.out.2.1, FACT.out.2.2.1, Lib.hid ⟨PX2.out, EQ3.out⟩⟩
              case measure => simp [intOf]; have := FACT.out; omega
          · by_cases c3 : b - (m + 1) ≥ 2
            · have DD : fixDown ltInt a (m + 1) (swp di (m + 1) m) = swp di (m + 1) m := by unfold fixDown; rw [if_neg c2]
              have UU : ∀ x : Array Int, fixUp ltInt b (m + 1) x = shiftUp ltInt b (m + 1 + 1) x := fun x => by unfold fixUp; rw [if_pos c3]
              rw [UU, DD] at EQ2
              clear DD UU
              have EQ3 := Lib.hid EQ2
              clear EQ2
              have d2 : decide ((2 : Int) ≤ (m : Int) + 1 - (a : Int)) = false := decide_eq_false (by omega)
              have d3 : decide ((2 : Int) ≤ (b : Int) - ((m : Int) + 1)) = true := decide_eq_true (by omega)
              have FACT : Hid (a < m + 1 ∧ m + 1 ≤ b ∧ s + 1 ≤ 5 ∧ m + 1 + 1 ≤ b ∧ b ≤ n ∧ 1 ≤ m + 1 + 1 ∧ m < n) := Lib.hid (by omega)
              go_wp2_with fail
              go_region
              all_goals go_wp2_with fail
              clear hcw hfw
              have PX := Lib.hid (NX.out 1)
              clear NX
              refine pi_up _ w _ blk off cap n b (m + 1 + 1) d _ HH.out HN.out FACT.out.2.2.2.2.2.1 FACT.out.2.2.2.1 FACT.out.2.2.2.2.1 hsz PX.out _ (by go_num) _ _ _ _ _ _ _ _ _ _ _ _ _ _ _ _ _ _ _ _ _ _ _ _ _ _ _ _ _ _ _ _ _ _ _ _ _ _ _ _ _ _ _ _ _ _ _ _ _ _ _ _ _ _ _ _ _ _ _ _ _ _ _ _ _ _ _ _ _ _ _ _ _ _ _ _ _ _ _ _ _ _ _ _ _ _ _ _ _ _ _ _ _ _ _ _ _ _ _ _ _ _ _ _ _ _ _ _ _ _ _ _ _ _ _ _ _ _ _ _ _ _ _ _ _ _ _ _ _ _ ?hq3
              case hq3 =>
              intro v10 v101 v102 v103 v104 v105 v106 v107 v108 v109 v110 v111 v112 v113 v114 v115 v116 v117 v118 v119 v120 v121 v122 v123 v124 v125 v126 v127 v128 v129 v130 v131 v132 w3 P3
              have PX3 := Lib.hid P3
              clear P3 PX
              refine hKO _ _ ?_
              go_wp2_with fail
              go_roundw
              case rel => exact ⟨m + 1, s + 1, _, by go_num, by go_num, FACT.out.1, FACT.out.2.1, FACT.out.2.2.1, Lib.hid ⟨PX3.out, EQ3.out⟩⟩
              case measure => simp [intOf]; have := FACT.out; omega
            · exfalso; omega
    · have c5' : s = 5 := by omega
      have d5 : decide ((s : Int) < 5) = false := decide_eq_false (by omega)
      have EN := RR.out.2
      rw [c5', pi_end] at EN
      injection EN with e1 e2
      subst e1 e2
      have FIN := Lib.hid RR.out.1
      clear RR
      go_wp2_with fail
      go_ret
      exact ⟨rfl, FIN.out⟩

end Go.Proofs.YtombnejipaoinaaGreat

namespace Go.Proofs.YtombnejipaoinaaGreat
open Go.RowKit Go.Sort

/-- the shelf's numbers -/
def rU32 : Go.Shelf.Ren := ⟨fun | 15 => 47 | 28 => 125 | 29 => 126 | 47 => 180 | 48 => 181 | n => n, fun | 3 => 3 | 39 => 118 | 0 => 0 | 53 => 22 | 55 => 111 | 4 => 4 | 5 => 5 | 9 => 9 | 66 => 261 | 76 => 354 | n => n, fun | n => n⟩
theorem lay47 : Go.Proofs.SlLaysF0.n47 Tryz.prog rU32 := {
  mixed := by kernel_rfl
  f15 := Tryz.func47.trans (congrArg some (by kernel_rfl))
  f28 := Tryz.func125.trans (congrArg some (by kernel_rfl))
  f29 := Tryz.func126.trans (congrArg some (by kernel_rfl))
  f47 := Tryz.func180.trans (congrArg some (by kernel_rfl))
  t3 := Tryz.underlying3
  a3 := Tryz.isAgg3
  z3 := Tryz.sizeOf3
  v3 := Tryz.zeroValue3
  t4 := Tryz.underlying4
  a4 := Tryz.isAgg4
  z4 := Tryz.sizeOf4
  v4 := Tryz.zeroValue4
  t5 := Tryz.underlying5
  a5 := Tryz.isAgg5
  z5 := Tryz.sizeOf5
  v5 := Tryz.zeroValue5
  t9 := Tryz.underlying9
  a9 := Tryz.isAgg9
  z9 := Tryz.sizeOf9
  v9 := Tryz.zeroValue9
  t39 := Tryz.underlying118
  a39 := Tryz.isAgg118
  z39 := Tryz.sizeOf118
  v39 := Tryz.zeroValue118
  t53 := Tryz.underlying22
  a53 := Tryz.isAgg22
  z53 := Tryz.sizeOf22
  v53 := Tryz.zeroValue22
  t55 := Tryz.underlying111
  a55 := Tryz.isAgg111
  z55 := Tryz.sizeOf111
  v55 := Tryz.zeroValue111 }
theorem lay48 : Go.Proofs.SlLaysF0.n48 Tryz.prog rU32 := {
  mixed := by kernel_rfl
  f48 := Tryz.func181.trans (congrArg some (by kernel_rfl))
  t0 := Tryz.underlying0
  a0 := Tryz.isAgg0
  z0 := Tryz.sizeOf0
  v0 := Tryz.zeroValue0
  t39 := Tryz.underlying118
  a39 := Tryz.isAgg118
  z39 := Tryz.sizeOf118
  v39 := Tryz.zeroValue118
  t55 := Tryz.underlying111
  a55 := Tryz.isAgg111
  z55 := Tryz.sizeOf111
  v55 := Tryz.zeroValue111
  t66 := Tryz.underlying261
  a66 := Tryz.isAgg261
  z66 := Tryz.sizeOf261
  v66 := Tryz.zeroValue261
  t76 := Tryz.underlying354
  a76 := Tryz.isAgg354
  z76 := Tryz.sizeOf354
  v76 := Tryz.zeroValue354 }

theorem next32 (rb X : Nat) (hX : X < 18446744073709551616) (w : World) (hc : w.cell? ⟨rb, 0, none⟩ = some (.int .u64 X)) (hf : w.frozen? ⟨rb, 0, none⟩ = false) :
    Calls Tryz.prog 181 #[.pointer (some ⟨rb, 0, none⟩)] w fun e w' => e = .returned (.int .u64 (xorNextN X : Nat)) ∧ w' = (w.setCell ⟨rb, 0, none⟩ (.int .u64 (xorNextN X : Nat))).drewN 3 :=
  AnyF.xorshift_Next lay48 rb 0 X hX w hc hf
theorem pow32 (n : Nat) (hn : n < 4611686018427387904) (w : World) : Calls Tryz.prog 180 #[.int .i64 n] w fun e w' => e = .returned (.int .u64 ((1 <<< bitsLen n : Nat) : Int)) ∧ w' = w :=
  AnyF.nextPowerOfTwo lay47 n hn w
theorem len32 (n : Nat) (hn : n < 4611686018427387904) (w : World) : Calls Tryz.prog 47 #[.int .u64 n] w fun e w' => e = .returned (.int .i64 (bitsLen n : Nat)) ∧ w' = w := by
  have h := Any.bits_Len (SlLaysF0.n15.bits (P := Tryz.prog) (ρ := rU32) { lay47 with }) (n : Int) w (by omega) (by omega)
  rwa [Int.toNat_natCast, bitLen_eq _ (by omega)] at h

/-- the row d stands at the place, the generator's state X in a new block behind w -/
def Bp (w : World) (blk off : Nat) (d : Array Int) (X : Nat) (wr : World) : Prop := ∃ q, wr = grow (putRow eU (Sort.ahead w q) blk off d) #[Obj.cells #[.int .u64 (X : Int)] 261]
section
variable {w wr : World} {blk off n X : Nat} {d d0 : Array Int}
theorem Bp.start (h : Holds eU w blk off d) (X : Nat) : Bp w blk off d X (w.alloc (.cells #[.int .u64 (X : Int)] 261)) := ⟨0, by rw [alloc_eq_grow]; exact congrArg (grow · _) (by rw [Sort.ahead_zero, putRow_self eU w blk off d h])⟩
theorem Bp.at (h : Bp w blk off d X wr) : Sort.At eU w blk off d wr := by
  obtain ⟨q, rfl⟩ := h
  exact ⟨q, _, rfl⟩
theorem Bp.cell (h : Bp w blk off d X wr) : wr.cell? ⟨w.heap.size, 0, none⟩ = some (.int .u64 (X : Int)) := by
  obtain ⟨q, rfl⟩ := h
  have hz : (putRow eU (Sort.ahead w q) blk off d).heap.size = w.heap.size := by simp
  rw [← hz]; exact grow_one_cell _ _ _
theorem Bp.free (h : Bp w blk off d X wr) : wr.frozen? ⟨w.heap.size, 0, none⟩ = false := by
  obtain ⟨q, rfl⟩ := h
  have hz : (putRow eU (Sort.ahead w q) blk off d).heap.size = w.heap.size := by simp
  rw [← hz]; exact grow_one_frozen _ _ _
theorem Bp.next (h : Bp w blk off d X wr) (Y q : Nat) : Bp w blk off d Y ((wr.setCell ⟨w.heap.size, 0, none⟩ (.int .u64 (Y : Int))).drewN q) := by
  obtain ⟨p, rfl⟩ := h
  have hz : (putRow eU (Sort.ahead w p) blk off d).heap.size = w.heap.size := by simp
  refine ⟨p + q, ?_⟩
  rw [← hz, setCell_grow_one]
  show grow ((putRow eU (Sort.ahead w p) blk off d).drewN q) _ = _
  rw [putRow_drewN]
theorem Bp.row (h : Bp w blk off d X wr) (h0 : Holds eU w blk off d0) (hs : d.size = d0.size) (hb : blk < w.heap.size) : Holds eU wr blk off d := (h.at.holds h0 hs hb).1
theorem Bp.swapG (h : Bp w blk off d X wr) (hb : blk < w.heap.size) (hn : d.size = n) {G : Nat → Int} (hG : ∀ t, G t = d[t]!) {i j : Nat} (hi : i < n) (hj : j < n) (q : Nat) : Bp w blk off (swp d i j) X (((wr.drewN q).setCell ⟨blk, off + i, none⟩ (.int .u32 (G j))).setCell ⟨blk, off + j, none⟩ (.int .u32 (G i))) := by
  obtain ⟨p, rfl⟩ := h
  refine ⟨p + q, ?_⟩
  rw [hG, hG, show (grow (putRow eU (Sort.ahead w p) blk off d) #[Obj.cells #[.int .u64 (X : Int)] 261]).drewN q = grow ((putRow eU (Sort.ahead w p) blk off d).drewN q) #[Obj.cells #[.int .u64 (X : Int)] 261] from rfl, putRow_drewN,
    setCell_grow _ _ _ _ _ (by simpa using hb), setCell_grow _ _ _ _ _ (by simpa using hb)]
  exact congrArg (grow · _) (putRow_swp eU _ blk off d i j (by omega) (by omega))
end

set_option maxHeartbeats 16000000 in
set_option maxRecDepth 100000 in
theorem brk32 (blk off cap n a l : Nat) (d : Array Int) (w : World) (hH : Holds eU w blk off d) (hn : d.size = n) (hbk : blk < w.heap.size) (hb : a + l ≤ n) (hsz : n < 4611686018427387904) :
    Calls Tryz.prog 118 #[.slice (some ⟨blk, off, none⟩) n cap, .int .i64 a, .int .i64 ((a : Int) + l)] w fun e w' =>
      e = .returned (.tuple #[]) ∧ Sort.At eU w blk off (breakPatterns d a (a + l)) w' := by
  have HH := Lib.hid hH
  have HN := Lib.hid hn
  have e0 : (a : Int) + (l : Int) - (a : Int) = (l : Int) := by omega
  by_cases l8 : 8 ≤ l
  · obtain ⟨m, hm⟩ : ∃ m, l / 4 = m := ⟨_, rfl⟩
    obtain ⟨i0, hi0⟩ : ∃ i0, a + m * 2 = i0 + 1 := ⟨a + m * 2 - 1, by omega⟩
    have e4 : Int.tdiv (l : Int) 4 = (m : Int) := by rw [Int.tdiv_eq_ediv_of_nonneg (by omega)]; omega
    have e5 : (a : Int) + (m : Int) * 2 = (i0 : Int) + 1 := by omega
    obtain ⟨M, hM⟩ : ∃ M : Nat, 1 <<< bitsLen l = M := ⟨_, rfl⟩
    have M2 : M ≤ 2 * l := by rw [← hM, Nat.one_shiftLeft]; exact two_pow_bitsLen_le (by omega)
    have M1 : 0 < M := by rw [← hM, Nat.one_shiftLeft]; exact Nat.two_pow_pos _
    have EQ0 : Hid (bpRest a l M i0 3 0 (UInt64.ofNat l, d) = breakPatterns d a (a + l)) := Lib.hid (by rw [breakPatterns_eq d a l l8, hM, hm, show a + m * 2 - 1 = i0 by omega])
    have PW := Lib.hid (fun W => pow32 l (by omega) W)
    rw [hM] at PW
    have B0 : Hid (Bp w blk off d (UInt64.ofNat l).toNat (w.alloc (.cells #[.int .u64 (l : Int)] 261))) := Lib.hid (by
      have : (UInt64.ofNat l).toNat = l := by rw [UInt64.toNat_ofNat']; omega
      rw [this]; exact Bp.start hH l)
    have d8 : decide ((8 : Int) ≤ (l : Int)) = true := decide_eq_true (by omega)
    have bm : m * 2 + 1 < l := by omega
    have m1 : m ≤ l := by omega
    have wl : IntKind.u64.wrap (l : Int) = (l : Int) := by rw [IntKind.wrap_u64]; omega
    clear hH hn hM hm hi0
    go_enter Tryz.func118, Tryz.ntmps118
    go_wp2_with (first | (go_at_call 180; refine (PW.out _).mono ?_; rintro e w' ⟨rfl, rfl⟩))
    have HBK := Lib.hid hbk
    go_loopw [9] (fun vi wr => ∃ (p t : Nat) (r : UInt64) (dk : Array Int), vi = .int .i64 p ∧ p = i0 + t ∧ t ≤ 3 ∧ Hid (Bp w blk off dk r.toNat wr ∧ dk.size = n ∧ bpRest a l M i0 (3 - t) t (r, dk) = breakPatterns d a (a + l))) (fun vi _ => i0 + 4 - (intOf vi).toNat)
    case atStart => exact ⟨i0, 0, UInt64.ofNat l, d, by go_num, rfl, by omega, Lib.hid ⟨B0.out, HN.out, EQ0.out⟩⟩
    case round =>
      clear B0 EQ0
      obtain ⟨p, t, r, dk, rfl, hp, ht, R⟩ := hrel
      by_cases c3 : t < 3
      · have d3 : decide ((p : Int) ≤ (i0 : Int) + 1 + 1) = true := decide_eq_true (by omega)
        have lY : (xorNext r).toNat < 18446744073709551616 := (xorNext r).toNat_lt
        have NC := Lib.hid (fun W (hc : W.cell? ⟨w.heap.size, 0, none⟩ = some (.int .u64 (r.toNat : Int))) (hf : W.frozen? ⟨w.heap.size, 0, none⟩ = false) => next32 w.heap.size r.toNat r.toNat_lt W hc hf)
        rw [← xorNext_toNat] at NC
        have y0 : wr.cell? ⟨w.heap.size, 0, none⟩ = some (.int .u64 (r.toNat : Int)) := R.out.1.cell
        have y1 : wr.frozen? ⟨w.heap.size, 0, none⟩ = false := R.out.1.free
        obtain ⟨O, hO⟩ : ∃ O : Nat, (xorNext r).toNat &&& (M - 1) = O := ⟨_, rfl⟩
        have O2 : O < 2 * l := by rw [← hO]; exact Nat.lt_of_le_of_lt Nat.and_le_right (by omega)
        have eAnd : bits .and .u64 ((xorNext r).toNat : Int) ((M : Int) - 1) = (O : Int) := by
          rw [show ((M : Int) - 1) = ((M - 1 : Nat) : Int) by omega, bits_and_u64_nat _ _ lY (by omega), hO]
        have BN := Lib.hid (R.out.1.next (xorNext r).toNat 3)
        have ST := Lib.hid (fun o ho => (bp_step a l M i0 t r dk o c3 (by rw [hO]; exact ho)).symm.trans R.out.2.2)
        have SZ := Lib.hid R.out.2.1
        obtain ⟨G, hG⟩ : ∃ G : Nat → Int, ∀ t, G t = dk[t]! := ⟨fun t => dk[t]!, fun _ => rfl⟩
        have HG := Lib.hid hG
        have wM : IntKind.u64.wrap ((M : Int) - 1) = (M : Int) - 1 := by rw [IntKind.wrap_u64]; omega
        have wO : IntKind.i64.wrap (O : Int) = (O : Int) := by rw [IntWalk.i64_in _ (by omega)]
        have HP := Lib.hid hp
        have bp : p < n := by omega
        clear R hO hG lY hp
        generalize hY : (xorNext r).toNat = Y at *
        have HY := Lib.hid hY
        clear hY
        have N0 := Lib.hid (NC.out wr y0 y1)
        clear NC y0 y1
        go_upto_region 8 with (go_at_call 181; refine N0.out.mono ?_; rintro e w' ⟨rfl, hw'⟩)
        generalize (wr.setCell ⟨w.heap.size, 0, none⟩ (.int .u64 (Y : Int))).drewN 3 = W at *
        clear hw' N0
        by_cases cO : O ≥ l
        · obtain ⟨o, rfl⟩ : ∃ o : Nat, O = l + o := ⟨O - l, by omega⟩
          have dge : decide ((l : Int) ≤ (l : Int) + (o : Int)) = true := decide_eq_true (by omega)
          have e6 : (l : Int) + (o : Int) - (l : Int) = (o : Int) := by omega
          have EN : Hid (bpRest a l M i0 (3 - (t + 1)) (t + 1) (xorNext r, swp dk p (a + o)) = breakPatterns d a (a + l)) := Lib.hid (by rw [HP.out]; exact ST.out o (by rw [if_pos cO, Nat.add_sub_cancel_left]))
          have NX := Lib.hid (fun q => BN.out.swapG HBK.out SZ.out HG.out (i := p) (j := a + o) bp (by omega) q)
          have HR0 := BN.out.row HH.out (SZ.out.trans HN.out.symm) HBK.out
          have hcw : ∀ t, t < n → W.cell? ⟨blk, off + t, none⟩ = some (.int .u32 (G t)) := fun t ht => by rw [HG.out]; exact (HR0 t (by rw [SZ.out]; exact ht)).1
          have hfw : ∀ t, t < n → W.frozen? ⟨blk, off + t, none⟩ = false := fun t ht => (HR0 t (by rw [SZ.out]; exact ht)).2
          have bo : a + o < n := by omega
          have t1 : ((a : Int) + (o : Int)).toNat = a + o := by omega
          clear HR0 cO ST BN
          have FACT : Hid (p + 1 = i0 + (t + 1) ∧ t + 1 ≤ 3) := Lib.hid ⟨by rw [HP.out]; omega, by omega⟩
          by_cases ne : p = a + o
          · subst ne
            go_wp2_with fail
            have T1 := Lib.hid t1
            go_region
            all_goals go_wp2_with fail
            go_roundw
            case rel => exact ⟨(a + o) + 1, t + 1, xorNext r, _, by go_num, FACT.out.1, FACT.out.2, Lib.hid ⟨by rw [HY.out]; exact NX.out 1, by rw [size_swp]; exact SZ.out, EN.out⟩⟩
            case measure => simp [intOf]; have := FACT.out; omega
          · have ne' : ¬ a + o = p := fun h => ne h.symm
            go_wp2_with fail
            go_region
            all_goals go_wp2_with fail
            go_roundw
            case rel => exact ⟨p + 1, t + 1, xorNext r, _, by go_num, FACT.out.1, FACT.out.2, Lib.hid ⟨by rw [HY.out]; exact NX.out 1, by rw [size_swp]; exact SZ.out, EN.out⟩⟩
            case measure => simp [intOf]; have := FACT.out; omega
        · obtain ⟨o, ho⟩ : ∃ o : Nat, o = O := ⟨_, rfl⟩
          obtain rfl := ho
          have dge : decide ((l : Int) ≤ (o : Int)) = false := decide_eq_false (by omega)
          have cl : o < l := by omega
          have cl2 : ¬ (l : Int) ≤ (o : Int) := by omega
          have EN : Hid (bpRest a l M i0 (3 - (t + 1)) (t + 1) (xorNext r, swp dk p (a + o)) = breakPatterns d a (a + l)) := Lib.hid (by rw [HP.out]; exact ST.out o (by rw [if_neg cO]))
          have NX := Lib.hid (fun q => BN.out.swapG HBK.out SZ.out HG.out (i := p) (j := a + o) bp (by omega) q)
          have HR0 := BN.out.row HH.out (SZ.out.trans HN.out.symm) HBK.out
          have hcw : ∀ t, t < n → W.cell? ⟨blk, off + t, none⟩ = some (.int .u32 (G t)) := fun t ht => by rw [HG.out]; exact (HR0 t (by rw [SZ.out]; exact ht)).1
          have hfw : ∀ t, t < n → W.frozen? ⟨blk, off + t, none⟩ = false := fun t ht => (HR0 t (by rw [SZ.out]; exact ht)).2
          have bo : a + o < n := by omega
          have t1 : ((a : Int) + (o : Int)).toNat = a + o := by omega
          clear HR0 cO ST BN
          have FACT : Hid (p + 1 = i0 + (t + 1) ∧ t + 1 ≤ 3) := Lib.hid ⟨by rw [HP.out]; omega, by omega⟩
          by_cases ne : p = a + o
          · subst ne
            go_wp2_with fail
            have T1 := Lib.hid t1
            go_region
            all_goals go_wp2_with fail
            go_roundw
            case rel => exact ⟨(a + o) + 1, t + 1, xorNext r, _, by go_num, FACT.out.1, FACT.out.2, Lib.hid ⟨by rw [HY.out]; exact NX.out 1, by rw [size_swp]; exact SZ.out, EN.out⟩⟩
            case measure => simp [intOf]; have := FACT.out; omega
          · have ne' : ¬ a + o = p := fun h => ne h.symm
            go_wp2_with fail
            go_region
            all_goals go_wp2_with fail
            go_roundw
            case rel => exact ⟨p + 1, t + 1, xorNext r, _, by go_num, FACT.out.1, FACT.out.2, Lib.hid ⟨by rw [HY.out]; exact NX.out 1, by rw [size_swp]; exact SZ.out, EN.out⟩⟩
            case measure => simp [intOf]; have := FACT.out; omega
      · have t3 : t = 3 := by omega
        have d3 : decide ((p : Int) ≤ (i0 : Int) + 1 + 1) = false := decide_eq_false (by omega)
        have FIN : Hid (Sort.At eU w blk off (breakPatterns d a (a + l)) wr) := Lib.hid (by
          have e := R.out.2.2
          rw [t3] at e
          rw [← e]; exact R.out.1.at)
        clear R hp t3
        go_wp2_with fail
        go_end0
        exact ⟨rfl, FIN.out⟩
  · have E : breakPatterns d a (a + l) = d := by unfold breakPatterns; simp only [Nat.add_sub_cancel_left]; rw [if_neg (by omega)]
    have FIN : Hid (Sort.At eU w blk off (breakPatterns d a (a + l)) w) := Lib.hid (by rw [E]; exact Sort.At.refl hH)
    have d8 : decide ((8 : Int) ≤ (l : Int)) = false := decide_eq_false (by omega)
    clear hH hn E
    go_enter Tryz.func118, Tryz.ntmps118
    go_wp2_with fail
    go_end0
    exact ⟨rfl, FIN.out⟩

end Go.Proofs.YtombnejipaoinaaGreat

namespace Go.Proofs.YtombnejipaoinaaGreat
open Go.RowKit Go.Sort

/-- what a round of pdqsort computes ahead of its partition, and what then follows -/
structure Rnd (dk : Array Int) (a b lim : Nat) (wb wp : Bool) (d1 : Array Int) (L p0 : Nat) (h0 : Hint) (d2 : Array Int) (pv : Nat) (hn : Hint) (d3 : Array Int) (fin : Bool) : Prop where
  s1 : d1.size = dk.size
  s2 : d2.size = dk.size
  s3 : d3.size = dk.size
  l : L ≤ lim
  brk : wb = false → d1 = breakPatterns dk a b ∧ L = lim - 1
  same : wb = true → d1 = dk ∧ L = lim
  piv : choosePivot ltInt d1 a b = (p0, h0)
  p0a : a ≤ p0
  p0b : p0 < b
  rev : h0 = .decreasing → d2 = reverseRange d1 a b ∧ pv = (b - 1) - (p0 - a) ∧ hn = .increasing
  norev : h0 ≠ .decreasing → d2 = d1 ∧ pv = p0 ∧ hn = h0
  pva : a ≤ pv
  pvb : pv < b
  ins : (wb && wp && decide (hn = .increasing)) = true → partialInsertionSort ltInt d2 a b = (d3, fin)
  noins : (wb && wp && decide (hn = .increasing)) = false → d3 = d2 ∧ fin = false
  done : fin = true → pdq ltInt dk a b lim wb wp = d3
  eq : fin = false → (decide (a > 0) && !ltInt d3[a - 1]! d3[pv]!) = true → ∃ mid d4, partitionEqual ltInt d3 a b pv = (mid, d4) ∧ a < mid ∧ mid ≤ b ∧ d4.size = dk.size ∧ Below ltInt mid b d4 ∧ pdq ltInt dk a b lim wb wp = pdq ltInt d4 mid b L wb wp
  part : fin = false → (decide (a > 0) && !ltInt d3[a - 1]! d3[pv]!) = false → ∃ mid ap d4, partition ltInt d3 a b pv = (mid, ap, d4) ∧ a ≤ mid ∧ mid < b ∧ d4.size = dk.size ∧ Below ltInt a mid d4 ∧ Below ltInt (mid + 1) b d4 ∧
    (mid - a < b - mid → ∃ d5, pdq ltInt d4 a mid L true true = d5 ∧ d5.size = dk.size ∧ Below ltInt (mid + 1) b d5 ∧ pdq ltInt dk a b lim wb wp = pdq ltInt d5 (mid + 1) b L (decide (mid - a ≥ (b - a) / 8)) ap) ∧
    (¬ mid - a < b - mid → ∃ d5, pdq ltInt d4 (mid + 1) b L true true = d5 ∧ d5.size = dk.size ∧ Below ltInt a mid d5 ∧ pdq ltInt dk a b lim wb wp = pdq ltInt d5 a mid L (decide (b - mid ≥ (b - a) / 8)) ap)

theorem rnd {dk : Array Int} {a b lim : Nat} (wb wp : Bool) (h12 : ¬ b - a ≤ 12) (hl : ¬ lim = 0) (hb : b ≤ dk.size) (hB : Below ltInt a b dk) : ∃ d1 L p0 h0 d2 pv hn d3 fin, Rnd dk a b lim wb wp d1 L p0 h0 d2 pv hn d3 fin := by
  obtain ⟨s1, -, hc, s2, -, hp, s3, B3⟩ := rd_facts (limit := lim) (wb := wb) (wp := wp) swo_ltInt partialInsertionSort_holds reverseRange_holds (show a < b by omega) hb hB
  have ll : (rd ltInt dk a b lim wb wp).lim ≤ lim := rd_lim_le
  refine ⟨(rd ltInt dk a b lim wb wp).d1, (rd ltInt dk a b lim wb wp).lim, (rd ltInt dk a b lim wb wp).c.1, (rd ltInt dk a b lim wb wp).c.2, (rd ltInt dk a b lim wb wp).d2, (rd ltInt dk a b lim wb wp).pivot, (rd ltInt dk a b lim wb wp).hint, (rd ltInt dk a b lim wb wp).pi.1, (rd ltInt dk a b lim wb wp).pi.2, ?_⟩
  refine { s1 := s1, s2 := s2, s3 := s3, l := ll, brk := ?_, same := ?_, piv := rfl, p0a := hc.1, p0b := hc.2, rev := rd_dec, norev := rd_not, pva := hp.1, pvb := hp.2, ins := fun h => (rd_pi_yes h).symm, noins := fun h => ?_, done := fun h => pdq_done h12 hl h, eq := fun h1 h2 => ?_, part := fun h1 h2 => ?_ }
  · rintro rfl; exact rd_false
  · rintro rfl; exact rd_true
  · have := rd_pi_no h
    rw [this]; exact ⟨rfl, rfl⟩
  · have h2' := h2
    simp only [Bool.and_eq_true, decide_eq_true_eq, Bool.not_eq_true'] at h2'
    obtain ⟨mid, d4, hx⟩ : ∃ mid d4, partitionEqual ltInt (rd ltInt dk a b lim wb wp).pi.1 a b (rd ltInt dk a b lim wb wp).pivot = (mid, d4) := ⟨_, _, rfl⟩
    obtain ⟨r1, r2, r3, r4, -⟩ := round_eq swo_ltInt (partitionEqual_holds _) h2'.1 hp.1 hp.2 (by rw [s3]; exact hb) B3 h2'.2 hx
    exact ⟨mid, d4, hx, r1, r2, r3.trans s3, r4, by rw [pdq_eq h12 hl h1 h2 (by rw [hx]; exact ⟨r1, r2⟩), hx]⟩
  · obtain ⟨mid, ap, d4, hx⟩ : ∃ mid ap d4, partition ltInt (rd ltInt dk a b lim wb wp).pi.1 a b (rd ltInt dk a b lim wb wp).pivot = (mid, ap, d4) := ⟨_, _, _, rfl⟩
    obtain ⟨r1, r2, r3, r4, r5, r6, r7⟩ := round_part swo_ltInt (partition_holds _) hp.1 hp.2 (by rw [s3]; exact hb) B3 hx
    have hs4 := r3.trans s3
    refine ⟨mid, ap, d4, hx, r1, r2, hs4, r4, r5, fun h4 => ?_, fun h4 => ?_⟩
    · obtain ⟨pL, sL⟩ := pdq_sorts ltInt swo_ltInt d4 a mid (rd ltInt dk a b lim wb wp).lim true true (by omega) (by omega) r4
      exact ⟨_, rfl, pL.1.trans hs4, (r6 _ pL sL).1, by rw [pdq_left h12 hl h1 h2 (by rw [hx]; exact ⟨r1, r2⟩) (by rw [hx]; exact h4), hx]⟩
    · obtain ⟨pL, sL⟩ := pdq_sorts ltInt swo_ltInt d4 (mid + 1) b (rd ltInt dk a b lim wb wp).lim true true (by omega) (by omega) r5
      exact ⟨_, rfl, pL.1.trans hs4, (r7 _ pL sL).1, by rw [pdq_right h12 hl h1 h2 (by rw [hx]; exact ⟨r1, r2⟩) (by rw [hx]; exact h4), hx]⟩

/-! the callees' contracts, from a world in which the row stands -/
section
variable {w wr : World} {blk off n : Nat} {d0 d : Array Int}
/-- the row d of size n stands at the place behind w -/
structure Row (w : World) (blk off n : Nat) (d : Array Int) (wr : World) : Prop where
  h : Sort.At eU w blk off d wr
  s : d.size = n
theorem Row.holds (R : Row w blk off n d wr) (h0 : Holds eU w blk off d0) (hs : d0.size = n) (hb : blk < w.heap.size) : Holds eU wr blk off d ∧ blk < wr.heap.size := R.h.holds h0 (R.s.trans hs.symm) hb
theorem Row.step (R : Row w blk off n d wr) (hb : blk < w.heap.size) {d' : Array Int} (hs : d'.size = n) {w1 : World} (h : Put wr blk off d' w1) : Row w blk off n d' w1 := ⟨R.h.step hb (hs.trans R.s.symm) h, hs⟩
theorem Row.stepG (R : Row w blk off n d wr) (hb : blk < w.heap.size) {d' : Array Int} (hs : d'.size = n) {w1 : World} (h : Sort.At eU wr blk off d' w1) : Row w blk off n d' w1 := ⟨R.h.stepG hb (hs.trans R.s.symm) h, hs⟩
theorem Row.new (R : Row w blk off n d wr) (h0 : Holds eU w blk off d0) (hs : d0.size = n) (hb : blk < w.heap.size) {w1 : World} (h : New wr w1) : Row w blk off n d w1 := ⟨R.h.same h0 (R.s.trans hs.symm) hb h, R.s⟩
theorem Row.draw (R : Row w blk off n d wr) (q : Nat) : Row w blk off n d (wr.drewN q) := ⟨R.h.ahead q, R.s⟩
end

theorem hint2 {h : Hint} : hintCode h = 2 ↔ h = .decreasing := by cases h <;> simp [hintCode]
theorem hint1 {h : Hint} : hintCode h = 1 ↔ h = .increasing := by cases h <;> simp [hintCode]
theorem eighth32 {x y p q : Nat} (h1 : q ≤ p) (h2 : y ≤ x) : decide (((x : Int) - (y : Int)) / 8 ≤ (p : Int) - (q : Int)) = decide (p - q ≥ (x - y) / 8) :=
  decide_eq_decide.2 (by omega)

end Go.Proofs.YtombnejipaoinaaGreat

namespace Go.Proofs.YtombnejipaoinaaGreat
open Go.RowKit Go.Sort

set_option maxHeartbeats 16000000 in
set_option maxRecDepth 1000000 in
theorem pdq32 : ∀ (N blk off cap n a b limit : Nat) (d : Array Int) (w : World), b - a < N → Holds eU w blk off d → d.size = n → blk < w.heap.size → a ≤ b → b ≤ n → n < 4611686018427387904 → limit < 4611686018427387904 → Below ltInt a b d →
    Calls Tryz.prog 46 #[.slice (some ⟨blk, off, none⟩) n cap, .int .i64 a, .int .i64 b, .int .i64 limit] w fun e w' => e = .returned (.tuple #[]) ∧ Row w blk off n (pdq ltInt d a b limit true true) w' := by
  intro N
  induction N with
  | zero => intro _ _ _ _ _ _ _ _ _ h; exact absurd h (Nat.not_lt_zero _)
  | succ N ih =>
  intro blk off cap n a b limit d w hN hH hn hbk hab hb hsz hlim hBel
  have IH := Lib.hid ih
  have HH := Lib.hid hH
  have HN := Lib.hid hn
  have HB := Lib.hid hbk
  have BEL := Lib.hid hBel
  have LS := Lib.hid less32
  clear ih hBel hbk
  go_enter Tryz.func46, Tryz.ntmps46
  go_wp2_with fail
  go_loopg [1, 2, 3, 8, 9] (b - a) (fun k s1 s2 s3 s8 s9 wr => ∃ (a' b' lim : Nat) (wb wp : Bool) (dk : Array Int), s1 = .int .i64 a' ∧ s2 = .int .i64 b' ∧ s3 = .int .i64 lim ∧ s8 = .bool wb ∧ s9 = .bool wp ∧
    a' ≤ b' ∧ b' ≤ n ∧ b' - a' ≤ k ∧ k ≤ b - a ∧ lim ≤ limit ∧ Hid (Below ltInt a' b' dk ∧ Row w blk off n dk wr ∧ pdq ltInt dk a' b' lim wb wp = pdq ltInt d a b limit true true))
  case atStart => exact ⟨a, b, limit, true, true, d, rfl, rfl, rfl, rfl, rfl, hab, hb, Nat.le_refl _, Nat.le_refl _, Nat.le_refl _, Lib.hid ⟨BEL.out, ⟨Sort.At.refl HH.out, HN.out⟩, rfl⟩⟩
  case round =>
    clear BEL hH hn
    obtain ⟨a', b', lim, wb, wp, dk, rfl, rfl, rfl, rfl, rfl, hab', hb', hk, hkN, hll, RR⟩ := hrel
    have KN : Hid (b' - a' ≤ N) := Lib.hid (by omega)
    obtain ⟨l, hl⟩ : ∃ l : Nat, (b' : Int) - (a' : Int) = (l : Int) := ⟨b' - a', by omega⟩
    by_cases h12 : l ≤ 12
    · have d12 : decide ((l : Int) ≤ 12) = true := decide_eq_true (by omega)
      have C := Lib.hid (insertion32 blk off cap a' b' dk wr (RR.out.2.1.holds HH.out HN.out HB.out).1 hab' (by rw [RR.out.2.1.s]; exact hb') (by rw [RR.out.2.1.s]; exact hsz))
      rw [RR.out.2.1.s] at C
      have FIN : Hid (∀ w1, Put wr blk off (insertionSort ltInt dk a' b') w1 → Row w blk off n (pdq ltInt d a b limit true true) w1) := Lib.hid (fun w1 h => by
        rw [← RR.out.2.2, pdq_small (by omega)]
        exact RR.out.2.1.step HB.out ((insertionSort_holds swo_ltInt dk a' b' hab' (by rw [RR.out.2.1.s]; exact hb')).1.1.trans RR.out.2.1.s) h)
      clear RR IH LS
      go_wp2_with fail
      refine C.out.mono ?_
      rintro e w1 ⟨rfl, P⟩
      have F := Lib.hid (FIN.out w1 P)
      clear P FIN C
      go_wp2_with fail
      (try simp only [Exit.inBlock, Exit.then])
      refine bodyPost_ret (results_none rfl _ _ _) rfl ?_
      exact ⟨rfl, F.out⟩
    have d12 : decide ((l : Int) ≤ 12) = false := decide_eq_false (by omega)
    by_cases hl0 : lim = 0
    · subst hl0
      have C := Lib.hid (heap32 blk off cap a' (b' - a') dk wr (RR.out.2.1.holds HH.out HN.out HB.out).1 (by rw [RR.out.2.1.s]; omega) (by rw [RR.out.2.1.s]; exact hsz))
      rw [RR.out.2.1.s, show (a' : Int) + ((b' - a' : Nat) : Int) = (b' : Int) by omega, show a' + (b' - a') = b' by omega] at C
      have FIN : Hid (∀ w1, Put wr blk off (heapSort ltInt dk a' b') w1 → Row w blk off n (pdq ltInt d a b limit true true) w1) := Lib.hid (fun w1 h => by
        rw [← RR.out.2.2, pdq_heap (by omega) rfl]
        exact RR.out.2.1.step HB.out ((heapSort_holds swo_ltInt dk a' b' hab' (by rw [RR.out.2.1.s]; exact hb')).1.1.trans RR.out.2.1.s) h)
      clear RR IH LS
      go_wp2_with fail
      refine C.out.mono ?_
      rintro e w1 ⟨rfl, P⟩
      have F := Lib.hid (FIN.out w1 P)
      clear P FIN C
      go_wp2_with fail
      (try simp only [Exit.inBlock, Exit.then])
      refine bodyPost_ret (results_none rfl _ _ _) rfl ?_
      exact ⟨rfl, F.out⟩
    have dl0 : ((lim : Int) == 0) = false := by simpa using hl0
    obtain ⟨d1, L, p0, h0, d2, pv, hn, d3, fin, F0⟩ := rnd wb wp (show ¬ b' - a' ≤ 12 by omega) hl0 (by rw [RR.out.2.1.s]; exact hb') RR.out.1
    have F := Lib.hid F0
    have EQ := Lib.hid RR.out.2.2
    have R0 := Lib.hid RR.out.2.1
    have SK := Lib.hid RR.out.2.1.s
    have p1 := F0.p0a
    have p2 := F0.p0b
    have p3 := F0.pva
    have p4 := F0.pvb
    clear F0 RR
    go_upto_if 35 with fail
    go_cut [3] (fun s3 wc => s3 = .int .i64 (L : Int) ∧ Hid (Row w blk off n d1 wc))
    case first =>
      cases wb with
      | false =>
        obtain ⟨e1, e2⟩ := F.out.brk rfl
        have C := Lib.hid (brk32 blk off cap n a' (b' - a') dk wr (R0.out.holds HH.out HN.out HB.out).1 SK.out (R0.out.holds HH.out HN.out HB.out).2 (by omega) hsz)
        rw [show (a' : Int) + ((b' - a' : Nat) : Int) = (b' : Int) by omega, show a' + (b' - a') = b' by omega, ← e1] at C
        have S1 := Lib.hid (F.out.s1.trans SK.out)
        go_wp2_with (go_at_call 118; refine C.out.mono ?_; rintro e w1 ⟨rfl, P⟩)
        go_meet
        case rel => exact ⟨by congr 1; omega, Lib.hid (R0.out.stepG HB.out S1.out P)⟩
      | true =>
        obtain ⟨e1, e2⟩ := F.out.same rfl
        have E1 := Lib.hid e1
        have E2 := Lib.hid e2
        clear e1 e2
        go_wp2_with fail
        go_meet
        case rel => exact ⟨by rw [E2.out], Lib.hid (by rw [E1.out]; exact R0.out)⟩
    case rest =>
    obtain ⟨rfl, R1⟩ := hcut
    clear R0
    -- the pivot; a descending row is turned round
    have CP := Lib.hid (pivot_32 blk off cap a' (b' - a') d1 wc (R1.out.holds HH.out HN.out HB.out).2 (R1.out.holds HH.out HN.out HB.out).1 (by omega) (by rw [R1.out.s]; omega) (by rw [R1.out.s]; exact hsz))
    rw [R1.out.s, show (a' : Int) + ((b' - a' : Nat) : Int) = (b' : Int) by omega, show a' + (b' - a') = b' by omega, F.out.piv] at CP
    go_upto_if 50 with (go_at_call 119; refine CP.out.mono ?_; rintro e w2 ⟨rfl, hw2⟩)
    have R2 := Lib.hid (R1.out.new HH.out HN.out HB.out hw2)
    clear hw2 CP R1
    go_cut [11, 12] (fun s11 s12 wc => s11 = .int .i64 (pv : Int) ∧ s12 = .int .i64 (hintCode hn) ∧ Hid (Row w blk off n d2 wc))
    case first =>
      by_cases hd : h0 = .decreasing
      · obtain ⟨e1, e2, e3⟩ := F.out.rev hd
        have c2 : hintCode h0 = 2 := hint2.2 hd
        have C := Lib.hid (reverse32 blk off cap a' b' d1 w2 (R2.out.holds HH.out HN.out HB.out).1 (by omega) (by rw [R2.out.s]; exact hb') (by rw [R2.out.s]; exact hsz))
        rw [R2.out.s, ← e1] at C
        have S2 := Lib.hid (F.out.s2.trans SK.out)
        have E2 := Lib.hid e2
        have E3 := Lib.hid e3
        clear e1 e2 e3 hd
        go_wp2_with (go_at_call 120; refine C.out.mono ?_; rintro e w3 ⟨rfl, P⟩)
        go_meet
        case rel => exact ⟨by rw [E2.out]; congr 1; omega, by rw [E3.out]; rfl, Lib.hid (R2.out.step HB.out S2.out P)⟩
      · obtain ⟨e1, e2, e3⟩ := F.out.norev hd
        have c2 : ¬ hintCode h0 = 2 := fun h => hd (hint2.1 h)
        have c3 : (hintCode h0 == 2) = false := by simpa using c2
        have E1 := Lib.hid e1
        have E2 := Lib.hid e2
        have E3 := Lib.hid e3
        clear e1 e2 e3 hd
        go_wp2_with fail
        go_meet
        case rel => exact ⟨by rw [E2.out], by rw [E3.out], Lib.hid (by rw [E1.out]; exact R2.out)⟩
    case rest =>
    obtain ⟨rfl, rfl, R3⟩ := hcut
    clear R2
    -- the row is likely sorted
    go_upto_region 15 with fail
    go_cut [68] (fun s68 wx => s68 = .bool (wb && wp && decide (hn = .increasing)) ∧ wx = wc)
    case first =>
      have HF := Lib.hid F
      clear F
      have c1 : (hintCode hn == 1) = decide (hn = .increasing) := by cases hn <;> simp [hintCode]
      have c2 : decide (hintCode hn = 1) = decide (hn = .increasing) := by cases hn <;> simp [hintCode]
      cases wb <;> cases wp <;>
        (go_wp2_with fail
         go_meet
         case rel => first | exact ⟨by simp, rfl⟩ | exact ⟨by simp [c1], rfl⟩ | exact ⟨by simp [c2], rfl⟩)
    case rest =>
    obtain ⟨rfl, rfl⟩ := hcut
    go_upto_if 68 with fail
    go_cut [] (fun wx => fin = false ∧ Hid (Row w blk off n d3 wx))
    case first =>
      cases hc : (wb && wp && decide (hn = .increasing)) with
      | false =>
        obtain ⟨e1, e2⟩ := F.out.noins hc
        have E1 := Lib.hid e1
        have E2 := Lib.hid e2
        clear e1 e2 hc
        go_wp2_with fail
        go_meet
        case rel => exact ⟨E2.out, Lib.hid (by rw [E1.out]; exact R3.out)⟩
      | true =>
        have e1 := F.out.ins hc
        have C := Lib.hid (pins32 blk off cap n a' b' d2 wc (R3.out.holds HH.out HN.out HB.out).1 R3.out.s (by omega) hb' hsz)
        rw [e1] at C
        have D := Lib.hid F.out.done
        clear e1 hc
        go_wp2_with fail
        refine C.out.mono ?_
        rintro e w4 ⟨rfl, P⟩
        have R4 := Lib.hid (R3.out.step HB.out P.1 P.2)
        clear P C
        cases fin with
        | false =>
          go_wp2_with fail
          go_meet
          case rel => exact ⟨by first | rfl | trivial, R4⟩
        | true =>
          have D2 := Lib.hid (D.out rfl)
          clear D
          go_wp2_with fail
          (try simp only [Exit.inBlock, Exit.then])
          refine bodyPost_ret (results_none rfl _ _ _) rfl ?_
          exact ⟨rfl, by rw [← EQ.out, D2.out]; exact R4.out⟩
    case rest =>
    obtain ⟨rfl, R4⟩ := hcut
    clear R3
    -- equals of the element ahead of the row?
    obtain ⟨G, hG⟩ : ∃ G : Nat → Int, ∀ t, G t = d3[t]! := ⟨fun t => d3[t]!, fun _ => rfl⟩
    have HR4 := (R4.out.holds HH.out HN.out HB.out).1
    have hcw : ∀ t, t < n → wc.cell? ⟨blk, off + t, none⟩ = some (.int .u32 (G t)) := fun t ht => by rw [hG]; exact (HR4 t (by rw [R4.out.s]; exact ht)).1
    have EG := Lib.hid (F.out.eq rfl)
    have PG := Lib.hid (F.out.part rfl)
    have FL := Lib.hid F.out.l
    simp only [← hG] at EG PG
    clear HR4 hG F SK
    go_upto_region 17 with fail
    go_cut [87] (fun s87 wx => s87 = .bool (decide (a' > 0) && !ltInt (G (a' - 1)) (G pv)) ∧ Hid (Row w blk off n d3 wx))
    case first =>
      have RD := Lib.hid (fun q => R4.out.draw q)
      clear EG PG
      cases a' with
      | zero =>
        have da : decide (((0 : Nat) : Int) > 0) = false := by decide
        go_big_quiet (first | (go_at_call 122; refine Calls.quiet_of_same (LS.out _ _ _)))
        go_wp2_with fail
        go_meet
        case rel => exact ⟨by simp, Lib.hid (RD.out _)⟩
      | succ t =>
        have da : decide (((t : Int) + 1) > 0) = true := decide_eq_true (by omega)
        have t1 : ((t : Int) + 1).toNat = t + 1 := by omega
        have t2 : ((t : Int)).toNat = t := by omega
        have s1 : IntKind.i64.wrap ((t : Int) + 1 - 1) = (t : Int) := by rw [IntWalk.i64_in _ (by omega)]; omega
        go_big_quiet (first | (go_at_call 122; refine Calls.quiet_of_same (LS.out _ _ _)))
        go_wp2_with fail
        go_meet
        case rel => exact ⟨by simp, Lib.hid (RD.out _)⟩
    case rest =>
    obtain ⟨rfl, R5⟩ := hcut
    clear hcw R4 LS
    obtain ⟨l8, hl8⟩ : ∃ l8 : Nat, Int.tdiv (l : Int) 8 = (l8 : Int) ∧ l8 = (b' - a') / 8 := ⟨(b' - a') / 8, by rw [Int.tdiv_eq_ediv_of_nonneg (by omega)]; omega, rfl⟩
    have e8 := hl8.1
    have E8 := Lib.hid hl8.2
    have b8 : l8 ≤ n := by omega
    clear hl8
    cases h87 : (decide (a' > 0) && !ltInt (G (a' - 1)) (G pv)) with
    | true =>
      obtain ⟨mid, d4, e1, m1, m2, e2, B4, e3⟩ := EG.out h87
      have C := Lib.hid (parteq32 blk off cap n a' b' pv d3 wc (R5.out.holds HH.out HN.out HB.out).1 R5.out.s p3 p4 hb' hsz)
      rw [e1] at C
      have NX := Lib.hid (fun w7 (P : PutN wc blk off n d4 w7) => (⟨B4, R5.out.step HB.out P.1 P.2, e3.symm.trans EQ.out⟩ : Sort.Below ltInt mid b' d4 ∧ Row w blk off n d4 w7 ∧ _))
      have LB := Lib.hid (Nat.le_trans FL.out hll)
      clear EG PG e1 e2 B4 e3 h87 R5 EQ IH
      go_wp2_with fail
      refine C.out.mono ?_
      rintro e w7 ⟨rfl, P⟩
      have N2 := Lib.hid (NX.out _ P)
      clear P NX C
      go_wp2_with fail
      go_roundg (b' - mid)
      case measure => omega
      case rel => exact ⟨mid, b', L, wb, wp, d4, rfl, rfl, rfl, rfl, rfl, m2, hb', Nat.le_refl _, by omega, LB.out, N2⟩
    | false =>
      obtain ⟨mid, ap, d4, e1, m1, m2, e2, B4, B5, PL, PR⟩ := PG.out h87
      have C := Lib.hid (part32 blk off cap n a' b' pv d3 wc (R5.out.holds HH.out HN.out HB.out).1 R5.out.s p3 p4 hb' hsz)
      rw [e1] at C
      have LB := Lib.hid (Nat.le_trans FL.out hll)
      have PL' := Lib.hid PL
      have PR' := Lib.hid PR
      have HB4 := Lib.hid B4
      have HB5 := Lib.hid B5
      have E4 := Lib.hid e2
      obtain ⟨x, hx⟩ : ∃ x : Nat, (mid : Int) - (a' : Int) = (x : Int) := ⟨mid - a', by omega⟩
      obtain ⟨y, hy⟩ : ∃ y : Nat, (b' : Int) - (mid : Int) = (y : Int) := ⟨b' - mid, by omega⟩
      clear EG PG e1 e2 B4 B5 PL PR h87
      go_upto_if 113 with (go_at_call 124; refine C.out.mono ?_; rintro e w7 ⟨rfl, P⟩)
      have R7 := Lib.hid (R5.out.step HB.out P.1 P.2)
      clear P R5 C
      by_cases h4 : x < y
      · obtain ⟨d5, e5, s5, B6, e6⟩ := PL'.out (by omega)
        have dlt : decide ((x : Int) < (y : Int)) = true := decide_eq_true (by omega)
        have I := Lib.hid (IH.out blk off cap n a' mid L d4 w7 (by have := KN.out; omega) (R7.out.holds HH.out HN.out HB.out).1 R7.out.s (R7.out.holds HH.out HN.out HB.out).2 m1 (by omega) hsz (by have := LB.out; omega) HB4.out)
        rw [e5] at I
        have NX := Lib.hid (fun w8 (P : Row w7 blk off n d5 w8) => (⟨B6, R7.out.stepG HB.out P.s P.h, e6.symm.trans EQ.out⟩ : Sort.Below ltInt (mid + 1) b' d5 ∧ Row w blk off n d5 w8 ∧ _))
        have D8 : Hid (decide ((l8 : Int) ≤ (x : Int)) = decide (mid - a' ≥ (b' - a') / 8)) := Lib.hid (by have := E8.out; exact decide_eq_decide.2 (by omega))
        clear PL' PR' e5 s5 B6 e6 IH R7 EQ
        go_wp2_with fail
        refine I.out.mono ?_
        rintro e w8 ⟨rfl, P⟩
        have N2 := Lib.hid (NX.out _ P)
        clear P NX I
        go_wp2_with fail
        go_roundg (b' - (mid + 1))
        case measure => omega
        case rel => exact ⟨mid + 1, b', L, decide (mid - a' ≥ (b' - a') / 8), ap, d5, by go_num, rfl, rfl, by rw [← D8.out]; exact congrArg Value.bool (decide_eq_decide.2 (by omega)), rfl, by omega, hb', Nat.le_refl _, by omega, LB.out, N2⟩
      · obtain ⟨d5, e5, s5, B6, e6⟩ := PR'.out (by omega)
        have dlt : decide ((x : Int) < (y : Int)) = false := decide_eq_false (by omega)
        have I := Lib.hid (IH.out blk off cap n (mid + 1) b' L d4 w7 (by have := KN.out; omega) (R7.out.holds HH.out HN.out HB.out).1 R7.out.s (R7.out.holds HH.out HN.out HB.out).2 (by omega) hb' hsz (by have := LB.out; omega) HB5.out)
        rw [e5, Int.natCast_add, Int.natCast_one] at I
        have NX := Lib.hid (fun w8 (P : Row w7 blk off n d5 w8) => (⟨B6, R7.out.stepG HB.out P.s P.h, e6.symm.trans EQ.out⟩ : Sort.Below ltInt a' mid d5 ∧ Row w blk off n d5 w8 ∧ _))
        have D8 : Hid (decide ((l8 : Int) ≤ (y : Int)) = decide (b' - mid ≥ (b' - a') / 8)) := Lib.hid (by have := E8.out; exact decide_eq_decide.2 (by omega))
        clear PL' PR' e5 s5 B6 e6 IH R7 EQ
        go_wp2_with fail
        refine I.out.mono ?_
        rintro e w8 ⟨rfl, P⟩
        have N2 := Lib.hid (NX.out _ P)
        clear P NX I
        go_wp2_with fail
        go_roundg (mid - a')
        case measure => omega
        case rel => exact ⟨a', mid, L, decide (b' - mid ≥ (b' - a') / 8), ap, d5, rfl, rfl, rfl, by rw [← D8.out]; exact congrArg Value.bool (decide_eq_decide.2 (by omega)), rfl, by omega, by omega, Nat.le_refl _, by omega, LB.out, N2⟩

set_option maxRecDepth 100000 in
/-- slices.Sort of []uint32: the row sorted, nothing else turns but draws and new blocks -/
theorem sort32 (blk off cap : Nat) (l : List Int) (w : World) (hH : Holds eU w blk off l.toArray) (hbk : blk < w.heap.size) (hsz : l.length < 4611686018427387904) :
    Calls Tryz.prog 16 #[.slice (some ⟨blk, off, none⟩) l.length cap] w fun e w' => e = .returned (.tuple #[]) ∧ Row w blk off l.length (l.mergeSort fun x y => decide (x ≤ y)).toArray w' := by
  have E : pdq ltInt l.toArray 0 l.length (bitsLen l.length) true true = (l.mergeSort fun x y => decide (x ≤ y)).toArray := by
    have h := sortInt l
    unfold Sort.sort at h
    rw [← h]
    simp
  have hk : bitsLen l.length ≤ 62 := (bitsLen_le_iff l.length 62).2 (by omega)
  have CP := Lib.hid (pdq32 (l.length + 1) blk off cap l.length 0 l.length (bitsLen l.length) l.toArray w (by omega) hH rfl hbk (Nat.zero_le _) (Nat.le_refl _) hsz (by omega) (Or.inl rfl))
  rw [E] at CP
  have CL := Lib.hid (fun W => len32 l.length hsz W)
  generalize l.length = n at *
  have wl : IntKind.u64.wrap (n : Int) = (n : Int) := by rw [IntKind.wrap_u64]; omega
  clear hH E hbk
  go_enter Tryz.func16, Tryz.ntmps16
  go_wp2_with (first
    | (go_at_call 47; refine (CL.out _).mono ?_; rintro e w' ⟨rfl, rfl⟩)
    | (go_at_call 46; refine CP.out.mono ?_; rintro e w' ⟨rfl, hR⟩))
  go_end0
  exact ⟨rfl, hR⟩

end Go.Proofs.YtombnejipaoinaaGreat

namespace Go.Proofs.YtombnejipaoinaaGreat
open Go.RowKit Go.Sort

theorem u32_flat (l : List Int) : (l.map u32E).flatten = l.map eU := by
  induction l with
  | nil => rfl
  | cons x t ih => simp only [List.map_cons, List.flatten_cons, ih]; rfl

theorem heap_put {w : World} {g n : Nat} {os : Array Obj} {cur : Array Value} {e : TypeId} {fr : Nat × Nat} (d : Array Int) (hb : w.heap[g]? = some (.cells cur e fr)) :
    (grow (putRow eU (Sort.ahead w n) g 0 d) os).heap[g]? = some (.cells (putCells eU 0 d cur) e fr) := by
  have hg : g < w.heap.size := (Array.getElem?_eq_some_iff.1 hb).1
  rw [heap_grow_old _ _ (by simpa using hg)]
  simp [putRow, mapBlock, Sort.ahead, Array.getElem?_modify, hb, onCells]

theorem grownBy_put {w : World} {g n : Nat} {os : Array Obj} (d : Array Int) : w.grownBy (grow (putRow eU (Sort.ahead w n) g 0 d) os) (some g) := by
  refine ⟨rfl, rfl, rfl, by simp, fun k hk hne => ?_⟩
  rw [heap_grow_old _ _ (by simpa using hk)]
  have : g ≠ k := fun e => hne (by rw [e])
  simp [putRow, mapBlock, Sort.ahead, Array.getElem?_modify, this]

theorem take_put (cur : Array Value) (ts : List Int) (h : ts.length ≤ cur.size) : (putCells eU 0 ts.toArray cur).toList.take ts.length = ts.map eU := by
  apply List.ext_getElem?
  intro j
  by_cases hj : j < ts.length
  · rw [List.getElem?_take_of_lt hj, Array.getElem?_toList]
    simp [putCells, hj, show j < cur.size by omega]
  · rw [List.getElem?_take_eq_none (by omega), List.getElem?_eq_none (by simp; omega)]

set_option maxHeartbeats 2000000 in
theorem ins_none32 (p : Option Addr) (cap : Nat) (w : World) :
    Calls Tryz.prog 116 #[.slice p 0 cap, .int .i64 0, .int .i64 0] w fun e w' => e = .returned (.tuple #[]) ∧ w = w' := by
  go_enter Tryz.func116, Tryz.ntmps116
  go_wp2_with fail
  refine wp_loop_rounds 1 ?_
  rw [rounds_succ]
  go_wp2_with fail
  go_end0
  exact ⟨rfl, rfl⟩

set_option maxHeartbeats 2000000 in
theorem pdq_none32 (p : Option Addr) (cap : Nat) (lim : Int) (w : World) :
    Calls Tryz.prog 46 #[.slice p 0 cap, .int .i64 0, .int .i64 0, .int .i64 lim] w fun e w' => e = .returned (.tuple #[]) ∧ w = w' := by
  go_enter Tryz.func46, Tryz.ntmps46
  go_wp2_with fail
  refine wp_loop_rounds 1 ?_
  rw [rounds_succ]
  go_wp2_with fail
  refine (ins_none32 p cap w).mono ?_
  rintro e w' ⟨rfl, rfl⟩
  go_wp2_with fail
  (try simp only [Exit.inBlock, Exit.then])
  refine bodyPost_ret (results_none rfl _ _ _) rfl ?_
  exact ⟨rfl, rfl⟩

set_option maxHeartbeats 2000000 in
theorem sort_none32 (p : Option Addr) (cap : Nat) (w : World) :
    Calls Tryz.prog 16 #[.slice p 0 cap] w fun e w' => e = .returned (.tuple #[]) ∧ w = w' := by
  have hl := len32 0 (by omega) w
  go_enter Tryz.func16, Tryz.ntmps16
  go_wp2_with fail
  refine hl.mono ?_
  rintro e w' ⟨rfl, rfl⟩
  go_wp2_with fail
  refine (pdq_none32 p cap _ _).mono ?_
  rintro e w' ⟨rfl, rfl⟩
  go_wp2_with fail
  go_end0
  exact ⟨rfl, rfl⟩

def SortWPost (base : Nat) (w : World) (v : Value) (l : List Int) (e : Ending) (w' : World) : Prop :=
  e = .returned (.tuple #[]) ∧ w'.ownsRow base 22 1 v l.length ((l.mergeSort fun x y => decide (x ≤ y)).map u32E).flatten ∧ Below base w w' ∧ w.grownBy w' v.ownBlock

theorem sort_words (base : Nat) (w : World) (v : Value) (l : List Int) (h : w.ownsRow base 22 1 v l.length (l.map u32E).flatten) (hl : l.length < 4611686018427387904) :
    Calls Tryz.prog 16 #[v] w (SortWPost base w v l) := by
  rcases own_cases h with ⟨rfl, h0⟩ | ⟨g, cap, cur, rfl, hb, hlt, hc, h1, h2, h3, h4⟩
  · refine (sort_none32 none 0 w).mono ?_
    rintro e w' ⟨rfl, rfl⟩
    have : l = [] := List.length_eq_zero_iff.1 h0
    subst this
    exact ⟨rfl, by simpa using h, Below.refl _ _, rfl, rfl, rfl, Nat.le_refl _, fun _ _ _ => rfl⟩
  · have hH : Holds eU w g 0 l.toArray := by
      intro j hj
      have hj' : j < l.length := by simpa using hj
      refine ⟨?_, blk_free hc _⟩
      rw [Nat.zero_add]
      refine blk_cell hc ?_
      rw [u32_flat, Nat.mul_one] at h4
      have e2 : (cur.toList.take l.length)[j]? = (l.map eU)[j]? := by rw [h4]
      rw [List.getElem?_take_of_lt hj'] at e2
      rw [← Array.getElem?_toList, e2]
      simp [hj']
    refine (sort32 g 0 cap l w hH hlt hl).mono ?_
    rintro e w' ⟨rfl, R⟩
    obtain ⟨n, os, rfl⟩ := R.h
    have hlen : (l.mergeSort fun x y => decide (x ≤ y)).length = l.length := List.length_mergeSort ..
    have gb := grownBy_put (w := w) (g := g) (n := n) (os := os) (l.mergeSort fun x y => decide (x ≤ y)).toArray
    refine ⟨rfl, ⟨by rw [u32_flat]; simp [hlen], .inr ⟨g, cap, _, rfl, hb, heap_put _ hc, h1, h2, by simp [putCells, h3], ?_⟩⟩, ⟨gb.os, gb.tape, gb.output, gb.size, fun i hi => gb.block i (by omega) (fun e => by cases e; omega)⟩, gb⟩
    rw [u32_flat, Nat.mul_one, ← hlen]
    exact take_put cur _ (by rw [hlen, h3]; omega)

end Go.Proofs.YtombnejipaoinaaGreat
