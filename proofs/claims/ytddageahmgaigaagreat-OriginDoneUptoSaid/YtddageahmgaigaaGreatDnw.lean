import Derived.Test.YtddageahmgaigaaGreatDnm
import Derived.BigQuiet
import Derived.Deep.DeepCutAuto
namespace Go.Proofs.YtddageahmgaigaaGreat
open Go.RowKit

noncomputable def dnBody (i : Nat) : Code := ((Tryz.f6.body.map outLoops).getD []).getD i .skip

structure DL1 (W : World) (db xs : List LsaD) (k : Nat) (v : Value) (wr : World) : Prop where
  hi : k ≤ xs.length
  row : LsasAt wr v ((insA db (xs.take k)).map LsaD.x)
  bel : Below W.heap.size W wr
theorem DL1.step {W : World} {db xs : List LsaD} {k : Nat} {v v' : Value} {wr w' : World} (R : DL1 W db xs k v wr) (A : AscD db) (c : k < xs.length) (h : LsasAt w' v' (insL xs[k].x ((insA db (xs.take k)).map LsaD.x))) (hb : Below wr.heap.size wr w') : DL1 W db xs (k + 1) v' w' :=
  ⟨c, by rw [insA_succ c, insD_map (insA_asc _ _ A)]; exact h, R.bel.trans (hb.mono R.bel.size)⟩

set_option maxHeartbeats 16000000 in
set_option maxRecDepth 100000 in
theorem dn_loop1 (Q : Exit → Act → World → Prop) (W : World) (v : Value) (db xs : List LsaD) (a : Option Addr) (n c : Nat) (hn : xs.length = n) (hm : n ≤ 1048576) (RX : LsasAt W (.slice a n c) (xs.map LsaD.x)) (RD : LsasAt W v (db.map LsaD.x)) (A : AscD db) (hl : ∀ k, (insA db (xs.take k)).length ≤ 1048576) (u1 u2 u3 u4 u5 u6 u8 u9 u10 u11 u12 u13 u14 u15 u16 u17 u18 u19 u20 u21 u22 u23 u24 u25 u26 u27 u28 u29 u30 u31 u32 u33 u34 u35 u36 u37 u38 u39 u40 u41 u42 u43 u44 u45 u46 u49 u50 u51 u52 u53 u54 u55 u56 u57 u58 u59 u60 u61 u62 u63 u64 u65 u66 u67 u68 u69 u70 u71 u72 u73 u74 u75 u76 u77 u78 u79 u80 u81 u82 u83 u84 u85 u86 u87 u88 u89 u90 u91 u92 u93 u94 u95 u96 u97 u98 u99 u100 u101 u102 u103 u104 u105 u106 u107 u108 u109 u110 u111 u112 u113 u114 u115 u116 u117 u118 u119 u120 u121 u122 u123 u124 u125 u126 u127 u128 u129 u130 u131 u132 u133 u134 u135 u136 u137 u138 u139 u140 u141 u142 : Value)
    (HQ0 : ∀ (v0 v9 v48 v49 v50 v51 v52 v53 v54 v55 v56 v57 : Value) (w' : World), DL1 W db xs n v0 w' → Q (.exit 0) ⟨#[v0, u1, u2, u3, u4, u5, u6, .slice a n c, u8, v9, u10, u11, u12, u13, u14, u15, u16, u17, u18, u19, u20, u21, u22, u23, u24, u25, u26, u27, u28, u29, u30, u31, u32, u33, u34, u35, u36, u37, u38, u39, u40, u41, u42, u43, u44, u45, u46, .int .i64 (n : Int), v48, v49, v50, v51, v52, v53, v54, v55, v56, v57, u58, u59, u60, u61, u62, u63, u64, u65, u66, u67, u68, u69, u70, u71, u72, u73, u74, u75, u76, u77, u78, u79, u80, u81, u82, u83, u84, u85, u86, u87, u88, u89, u90, u91, u92, u93, u94, u95, u96, u97, u98, u99, u100, u101, u102, u103, u104, u105, u106, u107, u108, u109, u110, u111, u112, u113, u114, u115, u116, u117, u118, u119, u120, u121, u122, u123, u124, u125, u126, u127, u128, u129, u130, u131, u132, u133, u134, u135, u136, u137, u138, u139, u140, u141, u142], []⟩ w') :
    Code.wp Tryz.prog (.loop (dnBody 0)) Q ⟨#[v, u1, u2, u3, u4, u5, u6, .slice a n c, u8, u9, u10, u11, u12, u13, u14, u15, u16, u17, u18, u19, u20, u21, u22, u23, u24, u25, u26, u27, u28, u29, u30, u31, u32, u33, u34, u35, u36, u37, u38, u39, u40, u41, u42, u43, u44, u45, u46, .int .i64 (n : Int), .int .i64 0, u49, u50, u51, u52, u53, u54, u55, u56, u57, u58, u59, u60, u61, u62, u63, u64, u65, u66, u67, u68, u69, u70, u71, u72, u73, u74, u75, u76, u77, u78, u79, u80, u81, u82, u83, u84, u85, u86, u87, u88, u89, u90, u91, u92, u93, u94, u95, u96, u97, u98, u99, u100, u101, u102, u103, u104, u105, u106, u107, u108, u109, u110, u111, u112, u113, u114, u115, u116, u117, u118, u119, u120, u121, u122, u123, u124, u125, u126, u127, u128, u129, u130, u131, u132, u133, u134, u135, u136, u137, u138, u139, u140, u141, u142], []⟩ W := by
  conv => enter [2, 1]; whnf
  have HQ := Lib.hid HQ0
  have HM := Lib.hid hm
  obtain ⟨a', c', ev, hlen, hc1⟩ := RX.get
  rw [List.length_map, hn] at ev hlen
  simp only [Value.slice.injEq] at ev
  obtain ⟨rfl, -, rfl⟩ := ev
  have HCC := Lib.hid (fun k (ck : k < n) => (by
    obtain ⟨b, off, ea, hb, hcc⟩ := hc1 (by rw [List.length_map, hn]; omega)
    have h := hcc k (by rw [List.length_map, hn]; exact ck)
    rw [List.getElem_map] at h
    exact ⟨b, off, ea, hb, h⟩ : ∃ b off, a = some ⟨b, off, none⟩ ∧ b < W.heap.size ∧ LsaCells W b (off + k * 15) (xs[k]'(by omega)).x))
  have SN := Lib.hid hn
  have ST : Hid (DL1 W db xs 0 v W) := Lib.hid ⟨Nat.zero_le _, RD, Below.refl _ _⟩
  have HA := Lib.hid A
  have HL := Lib.hid hl
  clear HQ0 hm RX RD hc1 A hl
  dsimp only
  go_loopw [48, 0] (fun ix vx wr => ∃ k : Nat, ix = .int .i64 k ∧ Hid (DL1 W db xs k vx wr)) (fun ix _ _ => n - (intOf ix).toNat)
  case atStart => exact ⟨0, rfl, ST⟩
  case round =>
    clear ST
    obtain ⟨k, rfl, R⟩ := hrel
    obtain ⟨vA, hvA⟩ : ∃ z, z = u0 := ⟨_, rfl⟩
    subst hvA
    have hk := R.out.hi
    by_cases ck : k < n
    · obtain ⟨b1, o1, rfl, hb1, hcc1⟩ := HCC.out k ck
      obtain ⟨⟨d0, d1, d2, d3, d4⟩, ⟨d5, d6, d7, d8, d9⟩, ⟨d10, d11, d12, d13, d14⟩⟩ := hcc1.below R.out.bel hb1
      have cs : k < xs.length := by rw [SN.out]; exact ck
      have IC := Lib.hid (insert_calls wr vA ((insA db (xs.take k)).map LsaD.x) xs[k].x R.out.row (by rw [List.length_map]; have h := HL.out k; omega))
      have STEP := Lib.hid (fun v' w' h hb => R.out.step (v' := v') (w' := w') HA.out cs h hb)
      have KC := Lib.hid ck
      have i0 : (0 : Int) ≤ (k : Int) := by omega
      have i1 : (k : Int) < (n : Int) := by omega
      have s3 : ((k : Int)).toNat = k := by omega
      have hm2 := HM.out
      clear hcc1 R
      generalize xs[k].x = x at *
      clear ck cs
      obtain ⟨xtyp, xid, xlen, xrouter, xseq, xage, xsum, xborder, xboundary, xla, xln, xlc, xaa, xan, xac, xcost, xsecond, xfwd, xtag⟩ := x
      simp only at d0 d1 d2 d3 d4 d5 d6 d7 d8 d9 d10 d11 d12 d13 d14
      simp only [lsaE] at IC
      go_wp2_with fail
      refine IC.out.mono ?_
      rintro e w5 ⟨v', rfl, row, B5⟩
      have NX := Lib.hid (STEP.out v' w5 row B5)
      clear row B5 IC STEP d0 d1 d2 d3 d4 d5 d6 d7 d8 d9 d10 d11 d12 d13 d14
      go_wp2_with fail
      go_roundw
      case rel => exact ⟨k + 1, by go_num, NX⟩
      case measure => simp [intOf]; have := KC.out; omega
    · obtain rfl : k = n := by have := SN.out; omega
      clear HCC HL
      go_wp2_with fail
      exact HQ.out _ _ _ _ _ _ _ _ _ _ _ _ _ R.out

end Go.Proofs.YtddageahmgaigaaGreat

namespace Go.Proofs.YtddageahmgaigaaGreat
open Go.RowKit

def cntD (rt : Int) (rows : List LsaD) (k : Nat) : Nat := ((rows.take k).filter (liveD rt)).length
theorem cntD_succ {rt : Int} {rows : List LsaD} {k : Nat} (c : k < rows.length) : cntD rt rows (k + 1) = cntD rt rows k + (if liveD rt rows[k] = true then 1 else 0) := by
  unfold cntD
  rw [List.take_succ_eq_append_getElem c, List.filter_append, List.length_append]
  by_cases h : liveD rt rows[k] = true <;> simp [h]
theorem cntD_le (rt : Int) (rows : List LsaD) (k : Nat) : cntD rt rows k ≤ k := by
  unfold cntD
  refine Nat.le_trans (List.length_filter_le _ _) ?_
  rw [List.length_take]
  exact Nat.min_le_left _ _

set_option maxHeartbeats 16000000 in
set_option maxRecDepth 100000 in
theorem dn_loop2 (Q : Exit → Act → World → Prop) (W : World) (rows : List LsaD) (rt : Int) (a : Option Addr) (n c : Nat) (hn : rows.length = n) (hm : n ≤ 1048576) (RX : LsasAt W (.slice a n c) (rows.map LsaD.x)) (u2 u3 u4 u5 u6 u7 u8 u9 u10 u11 u13 u14 u15 u16 u17 u18 u19 u20 u21 u22 u23 u24 u25 u26 u27 u28 u29 u30 u31 u32 u33 u34 u35 u36 u37 u38 u39 u40 u41 u42 u43 u44 u45 u46 u47 u48 u49 u50 u51 u52 u53 u54 u55 u56 u57 u58 u59 u60 u61 u62 u63 u64 u65 u66 u67 u68 u69 u70 u71 u72 u73 u74 u75 u76 u77 u80 u81 u82 u83 u84 u85 u86 u87 u88 u89 u90 u91 u92 u93 u94 u95 u96 u97 u98 u99 u100 u101 u102 u103 u104 u105 u106 u107 u108 u109 u110 u111 u112 u113 u114 u115 u116 u117 u118 u119 u120 u121 u122 u123 u124 u125 u126 u127 u128 u129 u130 u131 u132 u133 u134 u135 u136 u137 u138 u139 u140 u141 u142 : Value)
    (HQ0 : ∀ (v13 v79 v80 v81 v82 v83 v84 v85 v86 v87 v88 v89 v90 v91 v92 v93 v94 v95 v96 v97 v98 v99 v100 v101 : Value), Q (.exit 2) ⟨#[.slice a n c, .int .u32 rt, u2, u3, u4, u5, u6, u7, u8, u9, u10, u11, .int .i64 (cntD rt rows n : Int), v13, u14, u15, u16, u17, u18, u19, u20, u21, u22, u23, u24, u25, u26, u27, u28, u29, u30, u31, u32, u33, u34, u35, u36, u37, u38, u39, u40, u41, u42, u43, u44, u45, u46, u47, u48, u49, u50, u51, u52, u53, u54, u55, u56, u57, u58, u59, u60, u61, u62, u63, u64, u65, u66, u67, u68, u69, u70, u71, u72, u73, u74, u75, u76, u77, .int .i64 (n : Int), v79, v80, v81, v82, v83, v84, v85, v86, v87, v88, v89, v90, v91, v92, v93, v94, v95, v96, v97, v98, v99, v100, v101, u102, u103, u104, u105, u106, u107, u108, u109, u110, u111, u112, u113, u114, u115, u116, u117, u118, u119, u120, u121, u122, u123, u124, u125, u126, u127, u128, u129, u130, u131, u132, u133, u134, u135, u136, u137, u138, u139, u140, u141, u142], []⟩ W) :
    Code.wp Tryz.prog (.loop (dnBody 1)) Q ⟨#[.slice a n c, .int .u32 rt, u2, u3, u4, u5, u6, u7, u8, u9, u10, u11, .int .i64 0, u13, u14, u15, u16, u17, u18, u19, u20, u21, u22, u23, u24, u25, u26, u27, u28, u29, u30, u31, u32, u33, u34, u35, u36, u37, u38, u39, u40, u41, u42, u43, u44, u45, u46, u47, u48, u49, u50, u51, u52, u53, u54, u55, u56, u57, u58, u59, u60, u61, u62, u63, u64, u65, u66, u67, u68, u69, u70, u71, u72, u73, u74, u75, u76, u77, .int .i64 (n : Int), .int .i64 0, u80, u81, u82, u83, u84, u85, u86, u87, u88, u89, u90, u91, u92, u93, u94, u95, u96, u97, u98, u99, u100, u101, u102, u103, u104, u105, u106, u107, u108, u109, u110, u111, u112, u113, u114, u115, u116, u117, u118, u119, u120, u121, u122, u123, u124, u125, u126, u127, u128, u129, u130, u131, u132, u133, u134, u135, u136, u137, u138, u139, u140, u141, u142], []⟩ W := by
  conv => enter [2, 1]; whnf
  have HQ := Lib.hid HQ0
  have HM := Lib.hid hm
  obtain ⟨a', c', ev, hlen, hc1⟩ := RX.get
  rw [List.length_map, hn] at ev hlen
  simp only [Value.slice.injEq] at ev
  obtain ⟨rfl, -, rfl⟩ := ev
  have HCC := Lib.hid (fun k (ck : k < n) => (by
    obtain ⟨b, off, ea, hb, hcc⟩ := hc1 (by rw [List.length_map, hn]; omega)
    have h := hcc k (by rw [List.length_map, hn]; exact ck)
    rw [List.getElem_map] at h
    exact ⟨b, off, ea, h⟩ : ∃ b off, a = some ⟨b, off, none⟩ ∧ LsaCells W b (off + k * 15) (rows[k]'(by omega)).x))
  have SN := Lib.hid hn
  clear HQ0 hm RX hc1
  dsimp only
  go_loopw [79, 12] (fun ix vx wr => ∃ k : Nat, ix = .int .i64 k ∧ vx = .int .i64 (cntD rt rows k : Nat) ∧ k ≤ n ∧ wr = W) (fun ix _ _ => n - (intOf ix).toNat)
  case atStart => exact ⟨0, rfl, rfl, Nat.zero_le _, rfl⟩
  case round =>
    obtain ⟨k, rfl, rfl, hk, rfl⟩ := hrel
    by_cases ck : k < n
    · obtain ⟨b1, o1, rfl, hcc1⟩ := HCC.out k ck
      obtain ⟨⟨-, -, -, d3, -⟩, ⟨d5, -, -, -, -⟩, -⟩ := hcc1
      have cs : k < rows.length := by rw [SN.out]; exact ck
      have CT := Lib.hid (cntD_succ (rt := rt) cs)
      have LE := cntD_le rt rows k
      have LV : Hid (liveD rt rows[k] = (decide (rows[k].x.router = rt) && decide (rows[k].x.age < 3600))) := Lib.hid rfl
      have KC := Lib.hid ck
      have i0 : (0 : Int) ≤ (k : Int) := by omega
      have i1 : (k : Int) < (n : Int) := by omega
      have s3 : ((k : Int)).toNat = k := by omega
      have hm2 := HM.out
      generalize liveD rt rows[k] = lv at *
      generalize rows[k].x.router = xr at *
      generalize rows[k].x.age = xa at *
      generalize hcn : cntD rt rows k = cn at *
      clear ck cs
      by_cases q1 : xr = rt
      · have e1 : decide (xr = rt) = true := decide_eq_true q1
        by_cases q2 : xa < 3600
        · have e2 : decide (xa < 3600) = true := decide_eq_true q2
          have NX : Hid (cntD rt rows (k + 1) = cn + 1) := Lib.hid (by have h := CT.out; rw [LV.out, e1, e2] at h; exact h)
          clear CT LV
          go_wp2_with fail
          go_roundw
          case rel => exact ⟨k + 1, by go_num, by rw [NX.out]; go_num, KC.out, trivial⟩
          case measure => simp [intOf]; have := KC.out; omega
        · have e2 : decide (xa < 3600) = false := decide_eq_false q2
          have NX : Hid (cntD rt rows (k + 1) = cn) := Lib.hid (by have h := CT.out; rw [LV.out, e1, e2] at h; exact h)
          clear CT LV
          go_wp2_with fail
          go_roundw
          case rel => exact ⟨k + 1, by go_num, by rw [NX.out], KC.out, trivial⟩
          case measure => simp [intOf]; have := KC.out; omega
      · have e1 : decide (xr = rt) = false := decide_eq_false q1
        have NX : Hid (cntD rt rows (k + 1) = cn) := Lib.hid (by have h := CT.out; rw [LV.out, e1] at h; exact h)
        clear CT LV
        go_wp2_with fail
        go_roundw
        case rel => exact ⟨k + 1, by go_num, by rw [NX.out], KC.out, trivial⟩
        case measure => simp [intOf]; have := KC.out; omega
    · obtain rfl : k = n := by omega
      clear HCC
      go_wp2_with fail
      exact HQ.out _ _ _ _ _ _ _ _ _ _ _ _ _ _ _ _ _ _ _ _ _ _ _ _

end Go.Proofs.YtddageahmgaigaaGreat

namespace Go.Proofs.YtddageahmgaigaaGreat
open Go.RowKit

theorem gCd {W : World} {c : Addr} {v : Value} (h : W.cell? c = some v) (n : Nat) (os : Array Obj) : (Go.Sort.grow (W.drewN n) os).cell? c = some v :=
  cell_grown (World.block_lt_of_cell? _ _ h) h n os
structure Hold (W : World) (v : Value) (x y : Lsa) : Prop where
  age : y.age < 3600
  get : ∀ W', Below W.heap.size W W' → Calls Tryz.prog 26 #[v, .agg #[.int .i64 x.typ, .int .u32 x.id, .int .i64 x.len, .int .u32 x.router]] W' fun e w' => e = .returned (.tuple #[.agg (lsaE y).toArray, .bool true]) ∧ Below W'.heap.size W' w'
  same : ∀ W', Below W.heap.size W W' → Calls Tryz.prog 28 #[.agg (lsaE y).toArray, .agg (lsaE x).toArray] W' fun e w' => e = .returned (.bool true) ∧ Gr W' w'

set_option maxHeartbeats 16000000 in
set_option maxRecDepth 100000 in
theorem dn_loop3 (Q : Exit → Act → World → Prop) (W : World) (wt : List LsaD) (da : Option Addr) (dm dc : Nat) (a : Option Addr) (n c : Nat) (hn : wt.length = n) (hm : n ≤ 1048576) (RX : LsasAt W (.slice a n c) (wt.map LsaD.x)) (HG : ∀ d ∈ wt, ∃ y, Hold W (.slice da dm dc) d.x y) (u1 u3 u4 u5 u6 u7 u8 u9 u10 u11 u12 u13 u14 u15 u16 u17 u18 u19 u20 u21 u22 u23 u24 u25 u26 u27 u28 u29 u30 u31 u32 u33 u34 u35 u36 u37 u38 u39 u40 u41 u42 u43 u44 u45 u46 u47 u48 u49 u50 u51 u52 u53 u54 u55 u56 u57 u58 u59 u60 u61 u62 u63 u64 u65 u66 u67 u68 u69 u70 u71 u72 u73 u74 u75 u76 u77 u78 u79 u80 u81 u82 u83 u84 u85 u86 u87 u88 u89 u90 u91 u92 u93 u94 u95 u96 u97 u98 u99 u100 u101 u102 u105 u106 u107 u108 u109 u110 u111 u112 u113 u114 u115 u116 u117 u118 u119 u120 u121 u122 u123 u124 u125 u126 u127 u128 u129 u130 u131 u132 u133 u134 u135 u136 u137 u138 u139 u140 u141 u142 : Value)
    (HQ0 : ∀ (v6 v14 v15 v16 v104 v105 v106 v107 v108 v109 v110 v111 v112 v113 v114 v115 v116 v117 v118 v119 v120 v121 v122 v123 v124 v125 v126 v127 v128 v129 v130 v131 v132 v133 v134 v135 : Value) (w' : World), Below W.heap.size W w' → Q (.exit 4) ⟨#[.slice da dm dc, u1, .slice a n c, u3, u4, u5, v6, u7, u8, u9, u10, u11, u12, u13, v14, v15, v16, u17, u18, u19, u20, u21, u22, u23, u24, u25, u26, u27, u28, u29, u30, u31, u32, u33, u34, u35, u36, u37, u38, u39, u40, u41, u42, u43, u44, u45, u46, u47, u48, u49, u50, u51, u52, u53, u54, u55, u56, u57, u58, u59, u60, u61, u62, u63, u64, u65, u66, u67, u68, u69, u70, u71, u72, u73, u74, u75, u76, u77, u78, u79, u80, u81, u82, u83, u84, u85, u86, u87, u88, u89, u90, u91, u92, u93, u94, u95, u96, u97, u98, u99, u100, u101, u102, .int .i64 (n : Int), v104, v105, v106, v107, v108, v109, v110, v111, v112, v113, v114, v115, v116, v117, v118, v119, v120, v121, v122, v123, v124, v125, v126, v127, v128, v129, v130, v131, v132, v133, v134, v135, u136, u137, u138, u139, u140, u141, u142], []⟩ w') :
    Code.wp Tryz.prog (.loop (dnBody 2)) Q ⟨#[.slice da dm dc, u1, .slice a n c, u3, u4, u5, u6, u7, u8, u9, u10, u11, u12, u13, u14, u15, u16, u17, u18, u19, u20, u21, u22, u23, u24, u25, u26, u27, u28, u29, u30, u31, u32, u33, u34, u35, u36, u37, u38, u39, u40, u41, u42, u43, u44, u45, u46, u47, u48, u49, u50, u51, u52, u53, u54, u55, u56, u57, u58, u59, u60, u61, u62, u63, u64, u65, u66, u67, u68, u69, u70, u71, u72, u73, u74, u75, u76, u77, u78, u79, u80, u81, u82, u83, u84, u85, u86, u87, u88, u89, u90, u91, u92, u93, u94, u95, u96, u97, u98, u99, u100, u101, u102, .int .i64 (n : Int), .int .i64 0, u105, u106, u107, u108, u109, u110, u111, u112, u113, u114, u115, u116, u117, u118, u119, u120, u121, u122, u123, u124, u125, u126, u127, u128, u129, u130, u131, u132, u133, u134, u135, u136, u137, u138, u139, u140, u141, u142], []⟩ W := by
  conv => enter [2, 1]; whnf
  have HQ := Lib.hid HQ0
  have HM := Lib.hid hm
  obtain ⟨a', c', ev, hlen, hc1⟩ := RX.get
  rw [List.length_map, hn] at ev hlen
  simp only [Value.slice.injEq] at ev
  obtain ⟨rfl, -, rfl⟩ := ev
  have HCC := Lib.hid (fun k (ck : k < n) => (by
    obtain ⟨b, off, ea, hb, hcc⟩ := hc1 (by rw [List.length_map, hn]; omega)
    have h := hcc k (by rw [List.length_map, hn]; exact ck)
    rw [List.getElem_map] at h
    obtain ⟨y, hy⟩ := HG _ (List.getElem_mem (show k < wt.length by omega))
    exact ⟨b, off, y, ea, hb, h, hy⟩ : ∃ b off y, a = some ⟨b, off, none⟩ ∧ b < W.heap.size ∧ LsaCells W b (off + k * 15) (wt[k]'(by omega)).x ∧ Hold W (.slice da dm dc) (wt[k]'(by omega)).x y))
  have mixed : Tryz.prog.follows .mixedOrders = true := by kernel_rfl
  have SN := Lib.hid hn
  clear HQ0 hm RX hc1 HG
  dsimp only
  go_loopw [104] (fun ix wr => ∃ k : Nat, ix = .int .i64 k ∧ k ≤ n ∧ Hid (Below W.heap.size W wr)) (fun ix _ => n - (intOf ix).toNat)
  case atStart => exact ⟨0, rfl, Nat.zero_le _, Lib.hid (Below.refl _ _)⟩
  case round =>
    obtain ⟨k, rfl, hk, R⟩ := hrel
    by_cases ck : k < n
    · obtain ⟨b1, o1, y, rfl, hb1, hcc1, hold⟩ := HCC.out k ck
      have cs : k < wt.length := by rw [SN.out]; exact ck
      have KC := Lib.hid ck
      have i0 : (0 : Int) ≤ (k : Int) := by omega
      have i1 : (k : Int) < (n : Int) := by omega
      have s3 : ((k : Int)).toNat = k := by omega
      have hm2 := HM.out
      generalize wt[k].x = x at *
      clear ck cs
      obtain ⟨ag, get, same⟩ := hold
      obtain ⟨xtyp, xid, xlen, xrouter, xseq, xage, xsum, xborder, xboundary, xla, xln, xlc, xaa, xan, xac, xcost, xsecond, xfwd, xtag⟩ := x
      obtain ⟨ytyp, yid, ylen, yrouter, yseq, yage, ysum, yborder, yboundary, yla, yln, ylc, yaa, yan, yac, ycost, ysecond, yfwd, ytag⟩ := y
      simp only [lsaE] at ag get same
      have GT := Lib.hid get
      have SB := Lib.hid same
      have D1 := Lib.hid hcc1
      have KY := Lib.hid (fun WW => key_calls xtyp xid xlen xrouter xseq xage xsum WW)
      simp only [keyE] at KY
      have ge : decide (3600 ≤ yage) = false := decide_eq_false (by omega)
      obtain ⟨⟨d0, d1, d2, d3, d4⟩, ⟨d5, d6, d7, d8, d9⟩, ⟨d10, d11, d12, d13, d14⟩⟩ := hcc1.below R.out hb1
      simp only at d0 d1 d2 d3 d4 d5 d6
      clear get same ag d7 d8 d9 d10 d11 d12 d13 d14
      go_wp2_with fail
      refine (KY.out _).mono ?_
      rintro e w4 ⟨rfl, G4⟩
      have B4 := Lib.hid (R.out.trans (G4.b.mono R.out.size))
      have GT4 := Lib.hid (GT.out w4 B4.out)
      clear G4 KY GT R d0 d1 d2 d3 d4 d5 d6
      go_wp2_with fail
      refine GT4.out.mono ?_
      rintro e w5 ⟨rfl, G5⟩
      have B5 := Lib.hid (B4.out.trans (G5.mono B4.out.size))
      clear G5 GT4 B4
      go_upto_region 25 with fail
      generalize hW6 : w5.alloc _ = W6
      have B6 := Lib.hid (B5.out.trans ((show Below w5.heap.size w5 W6 by rw [← hW6]; exact (Below.refl _ _).alloc (Nat.le_refl _) _).mono B5.out.size))
      have b6 := Lib.hid (show W6.heap[w5.heap.size]? = some (.cells #[.int .i64 ytyp, .int .u32 yid, .int .i64 ylen, .int .u32 yrouter, .int .i64 yseq, .int .i64 yage, .int .i64 ysum, .bool yborder, .bool yboundary, .slice yla yln ylc, .slice yaa yan yac, .int .i64 ycost, .bool ysecond, .int .u32 yfwd, .int .i64 ytag] 42 (0, 0)) by rw [← hW6]; exact alloc_new _ _)
      have SC2 := Lib.hid (fun n os => (SB.out (Go.Sort.grow (W6.drewN n) os) (B6.out.trans ((Gr.of_grow n os).b.mono B6.out.size))).mono fun _ _ h => (⟨h.1, h.2.grow⟩ : _ ∧ ∃ q os', _ = Go.Sort.grow (World.drewN _ q) os'))
      have NX : Hid (∀ n os, Below W.heap.size W (Go.Sort.grow (W6.drewN n) os)) := Lib.hid (fun n os => B6.out.trans ((Gr.of_grow n os).b.mono B6.out.size))
      obtain ⟨⟨d0, d1, d2, d3, d4⟩, ⟨d5, d6, d7, d8, d9⟩, ⟨d10, d11, d12, d13, d14⟩⟩ := D1.out.below B6.out hb1
      obtain ⟨⟨⟨e0, e1, e2, e3, e4⟩, ⟨e5, e6, e7, e8, e9⟩, ⟨e10, e11, e12, e13, e14⟩⟩, -⟩ := blk15 b6.out
      simp only at d0 d1 d2 d3 d4 d5 d6 d7 d8 d9 d10 d11 d12 d13 d14
      have p0 := gCd d0
      have q0 := gCd e0
      have p1 := gCd d1
      have q1 := gCd e1
      have p2 := gCd d2
      have q2 := gCd e2
      have p3 := gCd d3
      have q3 := gCd e3
      have p4 := gCd d4
      have q4 := gCd e4
      have p5 := gCd d5
      have q5 := gCd e5
      have p6 := gCd d6
      have q6 := gCd e6
      have p7 := gCd d7
      have q7 := gCd e7
      have p8 := gCd d8
      have q8 := gCd e8
      have p9 := gCd d9
      have q9 := gCd e9
      have p10 := gCd d10
      have q10 := gCd e10
      have p11 := gCd d11
      have q11 := gCd e11
      have p12 := gCd d12
      have q12 := gCd e12
      have p13 := gCd d13
      have q13 := gCd e13
      have p14 := gCd d14
      have q14 := gCd e14
      clear hW6 B5 SB D1 d0 d1 d2 d3 d4 d5 d6 d7 d8 d9 d10 d11 d12 d13 d14 e0 e1 e2 e3 e4 e5 e6 e7 e8 e9 e10 e11 e12 e13 e14
      refine wp_region_quiet_grown (by assumption) (by kernel_rfl) ?_
      repeat (go_big_quiet_step ((go_at_call 28; with_reducible exact Calls.grown_of (SC2.out _ _))))
      refine wpQuiet_nil ?_
      intro _ hw'
      obtain ⟨⟨nq, osq⟩, hw''⟩ := hw'
      subst hw''
      have NXz := Lib.hid (NX.out nq osq)
      clear SC2 NX b6 B6 p0 p1 p2 p3 p4 p5 p6 p7 p8 p9 p10 p11 p12 p13 p14 q0 q1 q2 q3 q4 q5 q6 q7 q8 q9 q10 q11 q12 q13 q14
      go_wp2_with fail
      go_roundw
      case rel => exact ⟨k + 1, by go_num, KC.out, NXz⟩
      case measure => simp [intOf]; have := KC.out; omega
    · obtain rfl : k = n := by omega
      clear HCC
      go_wp2_with fail
      exact HQ.out _ _ _ _ _ _ _ _ _ _ _ _ _ _ _ _ _ _ _ _ _ _ _ _ _ _ _ _ _ _ _ _ _ _ _ _ _ R.out

end Go.Proofs.YtddageahmgaigaaGreat

namespace Go.Proofs.YtddageahmgaigaaGreat
open Go.RowKit

theorem Dn.cnt {db wt xs : List LsaD} {rt : Int} (H : Dn db wt xs rt) : cntD rt (insA db xs) (insA db xs).length = wt.length := by
  unfold cntD
  rw [List.take_length]
  exact H.count
theorem Dn.hold {db wt xs : List LsaD} {rt : Int} (H : Dn db wt xs rt) {w : World} {v v2 : Value} (R : DbAt w v (insA db xs)) (T : DbAt w v2 wt) : ∀ d ∈ wt, ∃ y, Hold w v d.x y := by
  intro d hd
  obtain ⟨d', m, k, sb, ag⟩ := H.has hd
  refine ⟨d'.x, by omega, fun W' hb => (get_calls W' v _ (R.1.below hb) d.x.typ d.x.id d.x.len d.x.router).mono fun e w' ⟨x, b, he, hb2, gi⟩ => ?_, fun W' hb => ?_⟩
  · rcases gi with ⟨-, no⟩ | ⟨rfl, hk, hm⟩
    · exact absurd k (no d'.x (List.mem_map_of_mem m))
    · obtain ⟨z, hz, rfl⟩ := List.mem_map.1 hm
      have e1 : z = d' := H.rows.ok.one hz m (hk.trans k.symm)
      subst e1
      exact ⟨he, hb2⟩
  · have r := R.2 d' m
    have t := T.2 d hd
    have h := rsb_calls d'.x d.x d'.lk d.lk d'.att d.att W' (r.lk.below hb) (t.lk.below hb) (r.att.below hb) (t.att.below hb)
    rw [decide_eq_true sb] at h
    exact h

set_option maxHeartbeats 16000000 in
set_option maxRecDepth 100000 in
theorem donelaw (w : World) (v v2 : Value) (db wt : List LsaD) (rt : Int) (H : PlHy w v v2 db wt) :
    Calls Tryz.prog 6 #[v, .int .u32 rt, v2] w fun e w' => e = .returned (.bool true) ∧ Below w.heap.size w w' := by
  have LV := Lib.hid lives_calls
  obtain ⟨wa, wc, ev, -, -⟩ := H.hwt.1.get
  obtain ⟨nv, hnv⟩ : ∃ nv, wt.length = nv := ⟨_, rfl⟩
  rw [List.length_map, hnv] at ev
  obtain ⟨va, vc, ev1, -, -⟩ := H.hdb.1.get
  obtain ⟨nd, hnd⟩ : ∃ nd, db.length = nd := ⟨_, rfl⟩
  rw [List.length_map, hnd] at ev1
  subst ev ev1
  have HH := Lib.hid H
  have HNV := Lib.hid hnv
  have HND := Lib.hid hnd
  have CK := Lib.hid (dbcheck_exact w _ db H.hdb)
  have BD := Lib.hid (fun W (hb : Below w.heap.size w W) => bodies_calls W _ (wt.map LsaD.x) (H.hwt.1.below hb))
  obtain ⟨wx, hwx⟩ : ∃ wx, wt.map LsaD.x = wx := ⟨_, rfl⟩
  rw [hwx] at BD
  have PP := Lib.hid (fun (D : DbOk db) (hn : db.length ≤ 2000) W (hb : Below w.heap.size w W) => plan_calls W _ _ db wt rt ⟨H.hdb.below hb, H.hl, D⟩ (by omega) (H.hwt.below hb) H.wl H.wk (D.keys H.hdb) H.wn)
  clear H hnv hnd hwx
  go_enter Tryz.func6, Tryz.ntmps6
  go_wp2_with fail
  refine CK.out.mono ?_
  rintro e w1 ⟨c, rfl, B1, HC, -⟩
  have HB1 := Lib.hid B1
  have HDB := Lib.hid HC
  clear B1 HC CK
  by_cases hc : c = 0
  case neg =>
    have q1 : (c != 0) = true := by simpa using hc
    clear hc BD PP HH
    go_wp2_with fail
    refine (LV.out _).mono ?_
    rintro e wz ⟨rfl, Bz⟩
    have FIN := Lib.hid (HB1.out.trans (Bz.mono HB1.out.size))
    clear Bz
    go_wp2_with fail
    go_ret
    exact ⟨rfl, FIN.out⟩
  case pos =>
  subst hc
  have DD := Lib.hid (HDB.out rfl)
  clear HDB
  have BD1 := Lib.hid (BD.out w1 HB1.out)
  clear BD
  go_wp2_with fail
  refine BD1.out.mono ?_
  rintro e w2 ⟨rfl, G2⟩
  have HB2 := Lib.hid (HB1.out.trans (G2.b.mono HB1.out.size))
  clear BD1 G2 HB1
  cases hbb : bodB wx with
  | false =>
    clear hbb PP HH
    go_wp2_with fail
    refine (LV.out _).mono ?_
    rintro e wz ⟨rfl, Bz⟩
    have FIN := Lib.hid (HB2.out.trans (Bz.mono HB2.out.size))
    clear Bz
    go_wp2_with fail
    go_ret
    exact ⟨rfl, FIN.out⟩
  | true =>
  clear hbb
  by_cases hn : 200 < nv
  case pos =>
    have q2 : decide (200 < nv) = true := decide_eq_true hn
    have q3 : decide ((200 : Int) < (nv : Int)) = true := decide_eq_true (by omega)
    clear hn PP HH
    go_wp2_with fail
    refine (LV.out _).mono ?_
    rintro e wz ⟨rfl, Bz⟩
    have FIN := Lib.hid (HB2.out.trans (Bz.mono HB2.out.size))
    clear Bz
    go_wp2_with fail
    go_ret
    exact ⟨rfl, FIN.out⟩
  case neg =>
  have q2 : decide (200 < nv) = false := decide_eq_false hn
  have q3 : decide ((200 : Int) < (nv : Int)) = false := decide_eq_false (by omega)
  by_cases hd : 1000 < nd
  case pos =>
    have q4 : decide (1000 < nd) = true := decide_eq_true hd
    have q5 : decide ((1000 : Int) < (nd : Int)) = true := decide_eq_true (by omega)
    clear hn hd PP HH
    go_wp2_with fail
    refine (LV.out _).mono ?_
    rintro e wz ⟨rfl, Bz⟩
    have FIN := Lib.hid (HB2.out.trans (Bz.mono HB2.out.size))
    clear Bz
    go_wp2_with fail
    go_ret
    exact ⟨rfl, FIN.out⟩
  case neg =>
  have q4 : decide (1000 < nd) = false := decide_eq_false hd
  have q5 : decide ((1000 : Int) < (nd : Int)) = false := decide_eq_false (by omega)
  have LE1 : Hid (wt.length ≤ 200) := Lib.hid (by rw [HNV.out]; omega)
  have LE2 : Hid (db.length ≤ 1000) := Lib.hid (by rw [HND.out]; omega)
  have PP2 := Lib.hid (PP.out DD.out.2.ok DD.out.1 w2 HB2.out)
  clear hn hd PP
  go_wp2_with fail
  refine PP2.out.mono ?_
  rintro e w3 ⟨c1, l1, p1, xs, hi1, rfl, R1, e1, B3⟩
  have HB3 := Lib.hid (HB2.out.trans (B3.mono HB2.out.size))
  have HR1 := Lib.hid R1
  have HI := Lib.hid hi1
  clear PP2 B3 HB2 R1 hi1
  by_cases hc : c1 = 0
  case neg =>
    have q1 : (c1 != 0) = true := by simpa using hc
    clear hc HI HR1 e1 HH
    go_wp2_with fail
    refine (LV.out _).mono ?_
    rintro e wz ⟨rfl, Bz⟩
    have FIN := Lib.hid (HB3.out.trans (Bz.mono HB3.out.size))
    clear Bz
    go_wp2_with fail
    go_ret
    exact ⟨rfl, FIN.out⟩
  case pos =>
  subst hc e1
  have DN : Hid (Dn db wt xs rt) := Lib.hid ⟨DD.out.2, HI.out⟩
  obtain ⟨a1, ca1, rfl, -, -⟩ := HR1.out.row.get
  obtain ⟨nx, hnx⟩ : ∃ nx, xs.length = nx := ⟨_, rfl⟩
  have NX := Lib.hid hnx
  rw [List.length_map, hnx] at HR1
  rw [List.length_map, hnx]
  have LN := Lib.hid (fun k => DN.out.len k)
  have L1 := Lib.hid (fun Q => dn_loop1 Q w3 (.slice va nd vc) db xs a1 nx ca1 hnx (by have h := DN.out.xlen; have h1 := LE1.out; have h2 := LE2.out; omega) HR1.out.row (HH.out.hdb.1.below HB3.out) DN.out.ok.ok.ascD (fun k => by have h := LN.out k; have h1 := LE1.out; have h2 := LE2.out; omega))
  clear hnx HI DD
  go_wp2_with fail
  rename_i K hK
  refine L1.out _ _ _ _ _ _ _ _ _ _ _ _ _ _ _ _ _ _ _ _ _ _ _ _ _ _ _ _ _ _ _ _ _ _ _ _ _ _ _ _ _ _ _ _ _ _ _ _ _ _ _ _ _ _ _ _ _ _ _ _ _ _ _ _ _ _ _ _ _ _ _ _ _ _ _ _ _ _ _ _ _ _ _ _ _ _ _ _ _ _ _ _ _ _ _ _ _ _ _ _ _ _ _ _ _ _ _ _ _ _ _ _ _ _ _ _ _ _ _ _ _ _ _ _ _ _ _ _ _ _ _ _ _ _ _ _ _ _ _ _ ?hq1
  case hq1 =>
  intro v0 v9 v48 v49 v50 v51 v52 v53 v54 v55 v56 v57 w4 R4
  have HB4 := Lib.hid (HB3.out.trans (R4.bel.mono HB3.out.size))
  have ROW : Hid (DbAt w4 v0 (insA db xs)) := Lib.hid (by
    have h := R4.row
    rw [← NX.out, List.take_length] at h
    exact ⟨h, DN.out.deep (HH.out.hdb.below HB4.out) (HH.out.hwt.below HB4.out) (HR1.out.below R4.bel)⟩)
  have LNA : Hid ((insA db xs).length ≤ 1200) := Lib.hid (by have h := LN.out xs.length; rw [List.take_length] at h; have h1 := LE1.out; have h2 := LE2.out; omega)
  have PP4 := Lib.hid (plan_calls w4 v0 _ (insA db xs) wt rt ⟨ROW.out, DN.out.lens HH.out.hl HH.out.wl, DN.out.rows.ok⟩ (by have h := LNA.out; omega) (HH.out.hwt.below HB4.out) HH.out.wl HH.out.wk (DN.out.rows.ok.keys ROW.out) HH.out.wn)
  clear R4 L1 HB3 HR1 LN
  refine hK _ _ ?_
  clear hK
  go_wp2_with fail
  refine PP4.out.mono ?_
  rintro e w5 ⟨c2, l2, p2, ys, hi2, rfl, R2, e2, B5⟩
  obtain ⟨rfl, rfl⟩ := hi2.one (DN.out.again w)
  obtain rfl : ys = [] := List.map_eq_nil_iff.1 e2
  obtain ⟨a2, ca2, rfl, -, -⟩ := R2.row.get
  have HB5 := Lib.hid (HB4.out.trans (B5.mono HB4.out.size))
  have ROW5 := Lib.hid (ROW.out.below B5)
  have CK5 := Lib.hid (dbcheck_exact w5 v0 (insA db xs) ROW5.out)
  clear PP4 hi2 R2 e2 B5 HB4 ROW
  simp only [List.map_nil, List.length_nil]
  go_wp2_with fail
  refine CK5.out.mono ?_
  rintro e w6 ⟨c6, rfl, B6, -, h6⟩
  obtain rfl := h6 ⟨by have h := LNA.out; omega, DN.out.rows⟩
  have HB6 := Lib.hid (HB5.out.trans (B6.mono HB5.out.size))
  have ROW6 := Lib.hid (ROW5.out.below B6)
  clear CK5 h6 B6 HB5 ROW5
  obtain ⟨da, dc, rfl, -, -⟩ := ROW6.out.1.get
  obtain ⟨dm, hdm⟩ : ∃ dm, (insA db xs).length = dm := ⟨_, rfl⟩
  rw [List.length_map, hdm] at ROW6
  rw [List.length_map, hdm]
  have DM : Hid (dm ≤ 1200) := Lib.hid (by rw [← hdm]; exact LNA.out)
  have CNT : Hid (cntD rt (insA db xs) dm = nv) := Lib.hid (by rw [← hdm, DN.out.cnt, HNV.out])
  have L2 := Lib.hid (fun Q => dn_loop2 Q w6 (insA db xs) rt da dm dc hdm (by have h := DM.out; omega) ROW6.out.1)
  have L3 := Lib.hid (fun Q => dn_loop3 Q w6 wt da dm dc wa nv wc HNV.out (by rw [← HNV.out]; have h := LE1.out; omega) (HH.out.hwt.below HB6.out).1 (DN.out.hold ROW6.out (HH.out.hwt.below HB6.out)))
  clear hdm DN HH LNA
  go_wp2_with fail
  rename_i K2 hK2
  refine L2.out _ _ _ _ _ _ _ _ _ _ _ _ _ _ _ _ _ _ _ _ _ _ _ _ _ _ _ _ _ _ _ _ _ _ _ _ _ _ _ _ _ _ _ _ _ _ _ _ _ _ _ _ _ _ _ _ _ _ _ _ _ _ _ _ _ _ _ _ _ _ _ _ _ _ _ _ _ _ _ _ _ _ _ _ _ _ _ _ _ _ _ _ _ _ _ _ _ _ _ _ _ _ _ _ _ _ _ _ _ _ _ _ _ _ _ _ _ _ _ _ _ _ _ _ _ _ _ _ _ _ _ _ _ _ _ _ _ _ _ ?hq2
  case hq2 =>
  intro v13 v79 v80 v81 v82 v83 v84 v85 v86 v87 v88 v89 v90 v91 v92 v93 v94 v95 v96 v97 v98 v99 v100 v101
  rw [CNT.out]
  clear L2 CNT
  refine hK2 _ _ ?_
  clear hK2
  go_wp2_with fail
  rename_i K3 hK3
  refine L3.out _ _ _ _ _ _ _ _ _ _ _ _ _ _ _ _ _ _ _ _ _ _ _ _ _ _ _ _ _ _ _ _ _ _ _ _ _ _ _ _ _ _ _ _ _ _ _ _ _ _ _ _ _ _ _ _ _ _ _ _ _ _ _ _ _ _ _ _ _ _ _ _ _ _ _ _ _ _ _ _ _ _ _ _ _ _ _ _ _ _ _ _ _ _ _ _ _ _ _ _ _ _ _ _ _ _ _ _ _ _ _ _ _ _ _ _ _ _ _ _ _ _ _ _ _ _ _ _ _ _ _ _ _ _ _ _ _ _ _ _ ?hq3
  case hq3 =>
  intro v6 v14 v15 v16 v104 v105 v106 v107 v108 v109 v110 v111 v112 v113 v114 v115 v116 v117 v118 v119 v120 v121 v122 v123 v124 v125 v126 v127 v128 v129 v130 v131 v132 v133 v134 v135 w7 B7
  have HB7 := Lib.hid (HB6.out.trans (B7.mono HB6.out.size))
  clear L3 B7 HB6 ROW6
  refine hK3 _ _ ?_
  clear hK3
  go_wp2_with fail
  refine (LV.out _).mono ?_
  rintro e w8 ⟨rfl, B8⟩
  have FIN := Lib.hid (HB7.out.trans (B8.mono HB7.out.size))
  clear B8
  go_wp2_with fail
  go_ret
  exact ⟨rfl, FIN.out⟩

end Go.Proofs.YtddageahmgaigaaGreat
