import Derived.Test.YtddageahmgaigaaGreatPlq
namespace Go.Proofs.YtddageahmgaigaaGreat
open Go.RowKit

set_option maxHeartbeats 16000000 in
set_option maxRecDepth 100000 in
theorem pl_loop1 (Q : Exit → Act → World → Prop) (w3 W : World) (mb : Nat) (hmb : mb = w3.heap.size) (s : List LsaD) (a : Option Addr) (n c : Nat) (hn : s.length = n) (hm : n ≤ 1048576) (RS : LsasAt w3 (.slice a n c) (s.map LsaD.x)) (wk : ∀ d ∈ s, lkOk (keyD d)) (M0 : LMap W mb 0 (kF s 0)) (B0 : Below mb w3 W) (u0 u1 u2 u3 u4 u5 u6 u7 u8 u10 u11 u12 u13 u14 u15 u16 u17 u18 u19 u20 u21 u22 u23 u24 u25 u26 u27 u31 u32 u33 u34 u35 u36 u37 u38 u39 u40 u41 u42 u43 u44 u45 u46 u47 u48 u49 u50 u51 u52 u53 u54 u55 u56 u57 u58 u59 u60 u61 u62 u63 u64 u65 u66 u67 u68 u69 u70 u71 u72 u73 u74 u75 u76 u77 u78 u79 u80 u81 u82 u83 u84 u85 u86 u87 u88 u89 u90 u91 u92 u93 u94 : Value)
    (HQ0 : ∀ (v6 v7 v11 v30 v31 v32 v33 v34 v35 v36 v37 v38 v39 v40 v41 v42 v43 : Value) (w' : World), LMap w' mb n (kF s n) → Below mb w3 w' → (s.map keyD).Nodup → Q (.exit 0) ⟨#[u0, u1, u2, u3, u4, u5, v6, v7, u8, .map (some mb), u10, v11, u12, u13, u14, u15, u16, u17, u18, u19, u20, u21, u22, u23, u24, u25, u26, u27, .slice a n c, .int .i64 (n : Int), v30, v31, v32, v33, v34, v35, v36, v37, v38, v39, v40, v41, v42, v43, u44, u45, u46, u47, u48, u49, u50, u51, u52, u53, u54, u55, u56, u57, u58, u59, u60, u61, u62, u63, u64, u65, u66, u67, u68, u69, u70, u71, u72, u73, u74, u75, u76, u77, u78, u79, u80, u81, u82, u83, u84, u85, u86, u87, u88, u89, u90, u91, u92, u93, u94], []⟩ w')
    (HR0 : ∀ (v11 v30 v31 v32 v33 v34 v35 v36 v37 v38 v39 v40 v41 v42 v43 : Value) (w' : World), ¬ (s.map keyD).Nodup → Below mb w3 w' → Q .ret ⟨#[u0, u1, u2, u3, u4, u5, .slice none 0 0, .int .i64 7, u8, .map (some mb), u10, v11, u12, u13, u14, u15, u16, u17, u18, u19, u20, u21, u22, u23, u24, u25, u26, u27, .slice a n c, .int .i64 (n : Int), v30, v31, v32, v33, v34, v35, v36, v37, v38, v39, v40, v41, v42, v43, u44, u45, u46, u47, u48, u49, u50, u51, u52, u53, u54, u55, u56, u57, u58, u59, u60, u61, u62, u63, u64, u65, u66, u67, u68, u69, u70, u71, u72, u73, u74, u75, u76, u77, u78, u79, u80, u81, u82, u83, u84, u85, u86, u87, u88, u89, u90, u91, u92, u93, u94], []⟩ w') :
    Code.wp Tryz.prog (.loop (plBody 0)) Q ⟨#[u0, u1, u2, u3, u4, u5, u6, u7, u8, .map (some mb), u10, u11, u12, u13, u14, u15, u16, u17, u18, u19, u20, u21, u22, u23, u24, u25, u26, u27, .slice a n c, .int .i64 (n : Int), .int .i64 0, u31, u32, u33, u34, u35, u36, u37, u38, u39, u40, u41, u42, u43, u44, u45, u46, u47, u48, u49, u50, u51, u52, u53, u54, u55, u56, u57, u58, u59, u60, u61, u62, u63, u64, u65, u66, u67, u68, u69, u70, u71, u72, u73, u74, u75, u76, u77, u78, u79, u80, u81, u82, u83, u84, u85, u86, u87, u88, u89, u90, u91, u92, u93, u94], []⟩ W := by
  conv => enter [2, 1]; whnf
  subst hmb
  have HQ := Lib.hid HQ0
  have HR := Lib.hid HR0
  have HM := Lib.hid hm
  obtain ⟨a', c', ev, hlen, hc1⟩ := RS.get
  rw [List.length_map, hn] at ev hlen
  simp only [Value.slice.injEq] at ev
  obtain ⟨rfl, -, rfl⟩ := ev
  have HCC := Lib.hid (fun k (ck : k < n) => (by
    obtain ⟨b, off, ea, hb, hcc⟩ := hc1 (by rw [List.length_map, hn]; omega)
    have h := hcc k (by rw [List.length_map, hn]; exact ck)
    rw [List.getElem_map] at h
    exact ⟨b, off, ea, hb, h⟩ : ∃ b off, a = some ⟨b, off, none⟩ ∧ b < w3.heap.size ∧ LsaCells w3 b (off + k * 15) (s[k]'(by omega)).x))
  have WK := Lib.hid (fun k (ck : k < n) => wk (s[k]'(by omega)) (List.getElem_mem _))
  have SN := Lib.hid hn
  have ST : Hid (PL1 w3 w3.heap.size s 0 W) := Lib.hid ⟨Nat.zero_le _, M0, B0, by simp⟩
  clear HQ0 HR0 hm RS wk M0 B0 hc1
  dsimp only
  go_loopw [30] (fun ix wr => ∃ k : Nat, ix = .int .i64 k ∧ Hid (PL1 w3 w3.heap.size s k wr)) (fun ix _ => n - (intOf ix).toNat)
  case atStart => exact ⟨0, rfl, ST⟩
  case round =>
    clear ST
    obtain ⟨k, rfl, R⟩ := hrel
    have hk := R.out.hi
    by_cases ck : k < n
    · obtain ⟨b1, o1, rfl, hb1, hcc1⟩ := HCC.out k ck
      obtain ⟨WO, eWO⟩ : ∃ x, x = wr := ⟨_, rfl⟩
      subst eWO
      obtain ⟨⟨d0, d1, d2, d3, d4⟩, ⟨d5, d6, d7, d8, d9⟩, ⟨d10, d11, d12, d13, d14⟩⟩ := hcc1.below R.out.bel hb1
      have cs : k < s.length := by rw [SN.out]; exact ck
      have KO : Hid (lkOk ⟨s[k].x.typ, s[k].x.id, s[k].x.len, s[k].x.router⟩) := Lib.hid (WK.out k ck)
      have KS : Hid (upd (kF s k) ⟨s[k].x.typ, s[k].x.id, s[k].x.len, s[k].x.router⟩ true = kF s (k + 1)) := Lib.hid (kF_succ cs)
      have NDS : Hid (kF s k ⟨s[k].x.typ, s[k].x.id, s[k].x.len, s[k].x.router⟩ = none → ((s.take (k + 1)).map keyD).Nodup) := Lib.hid (fun h => nodup_succ cs R.out.nd (fun m => by have h2 : kF s k (keyD s[k]) = none := h; unfold kF at h2; rw [if_pos m] at h2; cases h2))
      have DUP : Hid (kF s k ⟨s[k].x.typ, s[k].x.id, s[k].x.len, s[k].x.router⟩ = some true → ¬ (s.map keyD).Nodup) := Lib.hid (fun h => dup_of cs (by
        by_cases m : keyD s[k] ∈ (s.take k).map keyD
        · exact m
        · have h2 : kF s k (keyD s[k]) = some true := h
          unfold kF at h2; rw [if_neg m] at h2; cases h2))
      have TWO : kF s k ⟨s[k].x.typ, s[k].x.id, s[k].x.len, s[k].x.router⟩ = none ∨ kF s k ⟨s[k].x.typ, s[k].x.id, s[k].x.len, s[k].x.router⟩ = some true := by
        show kF s k (keyD s[k]) = none ∨ kF s k (keyD s[k]) = some true
        unfold kF
        by_cases m : keyD s[k] ∈ (s.take k).map keyD
        · exact .inr (if_pos m)
        · exact .inl (if_neg m)
      have CS := Lib.hid cs
      have KC := Lib.hid ck
      have i0 : (0 : Int) ≤ (k : Int) := by omega
      have i1 : (k : Int) < (n : Int) := by omega
      have s3 : ((k : Int)).toNat = k := by omega
      have hm2 := HM.out
      have KL : Hid (k < maxLen) := Lib.hid (by have := HM.out; unfold maxLen; omega)
      clear hcc1
      generalize s[k].x = x at *
      clear ck cs
      obtain ⟨xtyp, xid, xlen, xrouter, xseq, xage, xsum, xborder, xboundary, xla, xln, xlc, xaa, xan, xac, xcost, xsecond, xfwd, xtag⟩ := x
      simp only at d0 d1 d2 d3 d4 d5 d6 d7 d8 d9 d10 d11 d12 d13 d14 KO KS NDS DUP TWO
      generalize hf : kF s k = f at *
      go_upto_region 9 with fail
      generalize hW5 : WO.alloc _ = W5
      have B5 : Below WO.heap.size WO W5 := by rw [← hW5]; exact (Below.refl _ _).alloc (Nat.le_refl _) _
      have b5 := Lib.hid (show W5.heap[WO.heap.size]? = some (.cells #[.int .i64 xtyp, .int .u32 xid, .int .i64 xlen, .int .u32 xrouter, .int .i64 xseq, .int .i64 xage, .int .i64 xsum, .bool xborder, .bool xboundary, .slice xla xln xlc, .slice xaa xan xac, .int .i64 xcost, .bool xsecond, .int .u32 xfwd, .int .i64 xtag] 42 (0, 0)) by rw [← hW5]; exact alloc_new _ _)
      have M5 := Lib.hid (by have h := R.out.mp; rw [hf] at h; exact h.grow B5 : LMap W5 w3.heap.size k f)
      have BB5 := Lib.hid (R.out.bel.trans (B5.mono R.out.bel.size))
      have K1 := Lib.hid (fun W => pkey_calls xtyp xid xlen xrouter xseq xage xsum W)
      simp only [keyE] at K1
      obtain ⟨⟨⟨e0, e1, e2, e3, e4⟩, ⟨e5, e6, e7, e8, e9⟩, ⟨e10, e11, e12, e13, e14⟩⟩, -⟩ := blk15 b5.out
      clear hW5 B5 d0 d1 d2 d3 d4 d5 d6 d7 d8 d9 d10 d11 d12 d13 d14 R hf
      go_wp2_with fail
      refine (K1.out _).mono ?_
      rintro e w8 ⟨rfl, G8⟩
      have M8 := Lib.hid (M5.out.grow G8.b)
      have BB8 := Lib.hid (BB5.out.trans (G8.b.mono BB5.out.size))
      have b8 := Lib.hid ((G8.b.block _ (blk_lt b5.out)).trans b5.out)
      clear G8 M5 BB5 b5 e0 e1 e2 e3 e4 e5 e6 e7 e8 e9 e10 e11 e12 e13 e14
      rcases TWO with hf | hf
      · have HF := Lib.hid hf
        have ND2 := Lib.hid (NDS.out hf)
        obtain ⟨⟨⟨e0, e1, e2, e3, e4⟩, ⟨e5, e6, e7, e8, e9⟩, ⟨e10, e11, e12, e13, e14⟩⟩, -⟩ := blk15 b8.out
        clear hf NDS DUP HR
        go_wp2_with (at_lookup; refine wpList_get_none _ rfl _ _ 106 rfl 4 Tryz.lkKey Tryz.underlying106 (Tryz.zeroBool _) w3.heap.size k f rfl M8.out ⟨xtyp, xid, xlen, xrouter⟩ rfl KO.out HF.out ?_)
        refine (K1.out _).mono ?_
        rintro e w9 ⟨rfl, G9⟩
        have M9 := Lib.hid (M8.out.grow G9.b)
        have BB9 := Lib.hid (BB8.out.trans (G9.b.mono BB8.out.size))
        clear G9 M8 BB8 b8 e0 e1 e2 e3 e4 e5 e6 e7 e8 e9 e10 e11 e12 e13 e14 K1
        go_wp2_with (at_mapUpdate; refine wpList_mput _ rfl _ _ _ 106 rfl 4 Tryz.lkKey Tryz.underlying106 w3.heap.size k f rfl M9.out KL.out ⟨xtyp, xid, xlen, xrouter⟩ rfl KO.out true rfl ?_; intro wA MA GA; have NX : Hid (PL1 w3 w3.heap.size s (k + 1) wA) := Lib.hid ⟨CS.out, by rw [← KS.out]; exact MA, BB9.out.grown GA BB9.out.size (fun j hj => by cases hj; exact Nat.le_refl _), ND2.out⟩; clear MA GA)
        go_roundw
        case rel => exact ⟨k + 1, by go_num, NX⟩
        case measure => simp [intOf]; have := KC.out; omega
      · have HF := Lib.hid hf
        have DU := Lib.hid (DUP.out hf)
        clear hf NDS DUP HQ b8
        go_wp2_with (at_lookup; refine wpList_get_some _ rfl _ _ 106 rfl 4 Tryz.lkKey Tryz.underlying106 (Tryz.zeroBool _) w3.heap.size k f rfl M8.out ⟨xtyp, xid, xlen, xrouter⟩ rfl KO.out true HF.out ?_; simp only [boolV])
        exact HR.out _ _ _ _ _ _ _ _ _ _ _ _ _ _ _ _ DU.out BB8.out
    · obtain rfl : k = n := by have := SN.out; omega
      have NDF : Hid ((s.map keyD).Nodup) := Lib.hid (by have h := R.out.nd; rwa [List.take_of_length_le (by rw [SN.out]; exact Nat.le_refl _)] at h)
      clear HR
      go_wp2_with fail
      exact HQ.out _ _ _ _ _ _ _ _ _ _ _ _ _ _ _ _ _ _ R.out.mp R.out.bel NDF.out

end Go.Proofs.YtddageahmgaigaaGreat

namespace Go.Proofs.YtddageahmgaigaaGreat
open Go.RowKit

set_option maxHeartbeats 16000000 in
set_option maxRecDepth 100000 in
theorem pl_loop2 (Q : Exit → Act → World → Prop) (W : World) (v : Value) (db s : List LsaD) (D : DbN W v db) (a : Option Addr) (n c : Nat) (hn : s.length = n) (hm : n ≤ 1048576) (RS : LsasAt W (.slice a n c) (s.map LsaD.x)) (DI : ∀ d ∈ s, DIn W d) (dl : ∀ d ∈ s, d.lk.length ≤ 1048576 ∧ d.att.length ≤ 1048576) (u1 u2 u3 u4 u5 u6 u7 u8 u9 u10 u11 u13 u14 u15 u16 u17 u18 u19 u20 u21 u22 u23 u24 u25 u26 u27 u28 u29 u30 u31 u32 u33 u34 u35 u36 u37 u38 u39 u40 u41 u42 u43 u47 u48 u49 u50 u51 u52 u53 u54 u55 u56 u57 u58 u59 u60 u61 u62 u63 u64 u65 u66 u67 u68 u69 u70 u71 u72 u73 u74 u75 u76 u77 u78 u79 u80 u81 u82 u83 u84 u85 u86 u87 u88 u89 u90 u91 u92 u93 u94 : Value)
    (HQ0 : ∀ (v6 v7 v12 v14 v15 v16 v17 v46 v47 v48 v49 v50 v51 v52 v53 v54 v55 v56 v57 v58 v59 v60 v61 v62 v63 v64 v65 : Value) (out : List LsaD) (w' : World), PL2 W db s n v12 out w' → Q (.exit 2) ⟨#[v, u1, u2, u3, u4, u5, v6, v7, u8, u9, u10, u11, v12, u13, v14, v15, v16, v17, u18, u19, u20, u21, u22, u23, u24, u25, u26, u27, u28, u29, u30, u31, u32, u33, u34, u35, u36, u37, u38, u39, u40, u41, u42, u43, .slice a n c, .int .i64 (n : Int), v46, v47, v48, v49, v50, v51, v52, v53, v54, v55, v56, v57, v58, v59, v60, v61, v62, v63, v64, v65, u66, u67, u68, u69, u70, u71, u72, u73, u74, u75, u76, u77, u78, u79, u80, u81, u82, u83, u84, u85, u86, u87, u88, u89, u90, u91, u92, u93, u94], []⟩ w')
    (HR0 : ∀ (v12 v14 v15 v16 v17 v46 v47 v48 v49 v50 v51 v52 v53 v54 v55 v56 v57 v58 v59 v60 v61 v62 v63 v64 v65 : Value) (w' : World) (i : Nat) (h : i < s.length), (∀ j, (hj : j < i) → (nx db (s[j]'(by omega))).c = 0) → (nx db s[i]).c ≠ 0 → Below W.heap.size W w' → Q .ret ⟨#[v, u1, u2, u3, u4, u5, .slice none 0 0, .int .i64 (nx db s[i]).c, u8, u9, u10, u11, v12, u13, v14, v15, v16, v17, u18, u19, u20, u21, u22, u23, u24, u25, u26, u27, u28, u29, u30, u31, u32, u33, u34, u35, u36, u37, u38, u39, u40, u41, u42, u43, .slice a n c, .int .i64 (n : Int), v46, v47, v48, v49, v50, v51, v52, v53, v54, v55, v56, v57, v58, v59, v60, v61, v62, v63, v64, v65, u66, u67, u68, u69, u70, u71, u72, u73, u74, u75, u76, u77, u78, u79, u80, u81, u82, u83, u84, u85, u86, u87, u88, u89, u90, u91, u92, u93, u94], []⟩ w') :
    Code.wp Tryz.prog (.loop (plBody 1)) Q ⟨#[v, u1, u2, u3, u4, u5, u6, u7, u8, u9, u10, u11, .slice none 0 0, u13, u14, u15, u16, u17, u18, u19, u20, u21, u22, u23, u24, u25, u26, u27, u28, u29, u30, u31, u32, u33, u34, u35, u36, u37, u38, u39, u40, u41, u42, u43, .slice a n c, .int .i64 (n : Int), .int .i64 0, u47, u48, u49, u50, u51, u52, u53, u54, u55, u56, u57, u58, u59, u60, u61, u62, u63, u64, u65, u66, u67, u68, u69, u70, u71, u72, u73, u74, u75, u76, u77, u78, u79, u80, u81, u82, u83, u84, u85, u86, u87, u88, u89, u90, u91, u92, u93, u94], []⟩ W := by
  conv => enter [2, 1]; whnf
  have HQ := Lib.hid HQ0
  have HR := Lib.hid HR0
  have HM := Lib.hid hm
  obtain ⟨i0', hi0, hz0, hz1, hz2⟩ := info_parts Tryz.infoLsa
  have HI0 := Lib.hid hi0
  have HZ0 := Lib.hid hz0
  have HZ1 := Lib.hid hz1
  have HZ2 := Lib.hid hz2
  clear hi0 hz0 hz1 hz2
  obtain ⟨a', c', ev, hlen, hc1⟩ := RS.get
  rw [List.length_map, hn] at ev hlen
  simp only [Value.slice.injEq] at ev
  obtain ⟨rfl, -, rfl⟩ := ev
  have HCC := Lib.hid (fun k (ck : k < n) => (by
    obtain ⟨b, off, ea, hb, hcc⟩ := hc1 (by rw [List.length_map, hn]; omega)
    have h := hcc k (by rw [List.length_map, hn]; exact ck)
    rw [List.getElem_map] at h
    exact ⟨b, off, ea, hb, h⟩ : ∃ b off, a = some ⟨b, off, none⟩ ∧ b < W.heap.size ∧ LsaCells W b (off + k * 15) (s[k]'(by omega)).x))
  have NC := Lib.hid (fun k (ck : k < s.length) WW (hb : Below W.heap.size W WW) => next_nx (D.below hb) s[k] ((DI _ (List.getElem_mem ck)).below hb) (dl _ (List.getElem_mem ck)).1 (dl _ (List.getElem_mem ck)).2)
  have SN := Lib.hid hn
  have ST : Hid (PL2 W db s 0 (.slice none 0 0) [] W) := Lib.hid ⟨Nat.zero_le _, ORow.nil _ _, rfl, (fun j _ h => absurd h (by omega)), Below.refl _ _⟩
  clear HQ0 HR0 hm RS D DI dl hc1
  dsimp only
  go_loopw [46, 12] (fun ix vx wr => ∃ (k : Nat) (out : List LsaD), ix = .int .i64 k ∧ Hid (PL2 W db s k vx out wr)) (fun ix _ _ => n - (intOf ix).toNat)
  case atStart => exact ⟨0, [], rfl, ST⟩
  case round =>
    clear ST
    obtain ⟨k, out, rfl, R⟩ := hrel
    obtain ⟨vA, hvA⟩ : ∃ z, z = u12 := ⟨_, rfl⟩
    subst hvA
    have hk := R.out.hi
    by_cases ck : k < n
    · obtain ⟨b1, o1, rfl, hb1, hcc1⟩ := HCC.out k ck
      obtain ⟨WO, eWO⟩ : ∃ x, x = wr := ⟨_, rfl⟩
      subst eWO
      obtain ⟨⟨d0, d1, d2, d3, d4⟩, ⟨d5, d6, d7, d8, d9⟩, ⟨d10, d11, d12, d13, d14⟩⟩ := hcc1.below R.out.bel hb1
      have cs : k < s.length := by rw [SN.out]; exact ck
      have NCk := Lib.hid (NC.out k cs)
      have STOP := Lib.hid (fun (v12 v14 v15 v16 v17 v46 v47 v48 v49 v50 v51 v52 v53 v54 v55 v56 v57 v58 v59 v60 v61 v62 v63 v64 v65 : Value) (W' : World) (hb : Below W.heap.size W W') (q : (nx db s[k]).c ≠ 0) => HR.out v12 v14 v15 v16 v17 v46 v47 v48 v49 v50 v51 v52 v53 v54 v55 v56 v57 v58 v59 v60 v61 v62 v63 v64 v65 W' k cs (fun j hj => R.out.ok j (by omega) hj) q hb)
      have SKIP := Lib.hid (fun (W' : World) (r : PL2 W db s k vA out W') h ho => r.skip cs h ho)
      have PUSH := Lib.hid (fun (W' wB : World) (v' : Value) (r : PL2 W db s k vA out W') h ho (y : LsaD) hy h1 h2 f1 f2 own' hg m => r.push (w' := wB) (v' := v') cs h ho (y := y) hy h1 h2 f1 f2 own' hg m)
      have KC := Lib.hid ck
      have i0 : (0 : Int) ≤ (k : Int) := by omega
      have i1 : (k : Int) < (n : Int) := by omega
      have s3 : ((k : Int)).toNat = k := by omega
      have hm2 := HM.out
      clear hcc1
      generalize nx db s[k] = r at *
      generalize s[k].x = x at *
      clear ck cs
      obtain ⟨xtyp, xid, xlen, xrouter, xseq, xage, xsum, xborder, xboundary, xla, xln, xlc, xaa, xan, xac, xcost, xsecond, xfwd, xtag⟩ := x
      obtain ⟨⟨⟨ytyp, yid, ylen, yrouter, yseq, yage, ysum, yborder, yboundary, yla, yln, ylc, yaa, yan, yac, ycost, ysecond, yfwd, ytag⟩, ylk, yatt⟩, rok, rc⟩ := r
      simp only at d0 d1 d2 d3 d4 d5 d6 d7 d8 d9 d10 d11 d12 d13 d14 STOP SKIP PUSH
      simp only [lsaE] at NCk
      go_upto_region 17 with fail
      generalize hW5 : WO.alloc _ = W5
      have B5 : Below WO.heap.size WO W5 := by rw [← hW5]; exact (Below.refl _ _).alloc (Nat.le_refl _) _
      have b5 := Lib.hid (show W5.heap[WO.heap.size]? = some (.cells #[.int .i64 xtyp, .int .u32 xid, .int .i64 xlen, .int .u32 xrouter, .int .i64 xseq, .int .i64 xage, .int .i64 xsum, .bool xborder, .bool xboundary, .slice xla xln xlc, .slice xaa xan xac, .int .i64 xcost, .bool xsecond, .int .u32 xfwd, .int .i64 xtag] 42 (0, 0)) by rw [← hW5]; exact alloc_new _ _)
      have R5 := Lib.hid (R.out.grow B5)
      have NC5 := Lib.hid (NCk.out W5 R5.out.bel)
      obtain ⟨⟨⟨e0, e1, e2, e3, e4⟩, ⟨e5, e6, e7, e8, e9⟩, ⟨e10, e11, e12, e13, e14⟩⟩, -⟩ := blk15 b5.out
      clear hW5 B5 d0 d1 d2 d3 d4 d5 d6 d7 d8 d9 d10 d11 d12 d13 d14 R NCk
      go_wp2_with fail
      refine NC5.out.mono ?_
      rintro e w8 ⟨la, lc, aa, ac, rfl, LA, WA, B8, FL, FA⟩
      have R8 := Lib.hid (R5.out.grow B8)
      have FA1 : Hid (Far vA (.slice la yln lc)) := Lib.hid (Far.new R5.out.row.row FL (Nat.le_refl _))
      have FA2 : Hid (Far vA (.slice aa yan ac)) := Lib.hid (Far.new R5.out.row.row FA (Nat.le_refl _))
      have HLA := Lib.hid LA
      have HWA := Lib.hid WA
      simp only [lsaE, atL]
      clear LA WA B8 FL FA R5 NC5 b5 e0 e1 e2 e3 e4 e5 e6 e7 e8 e9 e10 e11 e12 e13 e14
      by_cases qc : rc = 0
      · subst qc
        clear STOP
        go_upto_region 18 with fail
        generalize hW9 : w8.alloc _ = W9
        have B9 : Below w8.heap.size w8 W9 := by rw [← hW9]; exact (Below.refl _ _).alloc (Nat.le_refl _) _
        have b9 := Lib.hid (show W9.heap[w8.heap.size]? = some (.cells #[.int .i64 ytyp, .int .u32 yid, .int .i64 ylen, .int .u32 yrouter, .int .i64 yseq, .int .i64 yage, .int .i64 ysum, .bool yborder, .bool yboundary, .slice la yln lc, .slice aa yan ac, .int .i64 ycost, .bool ysecond, .int .u32 yfwd, .int .i64 ytag] 42 (0, 0)) by rw [← hW9]; exact alloc_new _ _)
        have R9 := Lib.hid (R8.out.grow B9)
        have LA9 := Lib.hid (HLA.out.below B9)
        have WA9 := Lib.hid (HWA.out.below B9)
        clear hW9 B9 R8 HLA HWA
        cases rok with
        | false =>
          have NX := Lib.hid (SKIP.out W9 R9.out rfl rfl)
          clear SKIP PUSH R9 LA9 WA9 b9
          go_wp2_with fail
          go_roundw
          case rel => exact ⟨k + 1, out, by go_num, NX⟩
          case measure => simp [intOf]; have := KC.out; omega
        | true =>
          obtain ⟨⟨⟨f0, f1, f2, f3, f4⟩, ⟨f5, f6, f7, f8, f9⟩, ⟨f10, f11, f12, f13, f14⟩⟩, -⟩ := blk15 b9.out
          obtain ⟨WC, hWC⟩ : ∃ WC, W9.alloc (.cells #[.int .i64 ytyp, .int .u32 yid, .int .i64 ylen, .int .u32 yrouter, .int .i64 yseq, .int .i64 yage, .int .i64 ysum, .bool yborder, .bool yboundary, .slice la yln lc, .slice aa yan ac, .int .i64 ycost, .bool ysecond, .int .u32 yfwd, .int .i64 ytag] 42) = WC := ⟨_, rfl⟩
          have BC : Below W9.heap.size W9 WC := by rw [← hWC]; exact (Below.refl _ _).alloc (Nat.le_refl _) _
          have BK : Hid (WC.heap[W9.heap.size]? = some (.cells (List.toArray [.int .i64 ytyp, .int .u32 yid, .int .i64 ylen, .int .u32 yrouter, .int .i64 yseq, .int .i64 yage, .int .i64 ysum, .bool yborder, .bool yboundary, .slice la yln lc, .slice aa yan ac, .int .i64 ycost, .bool ysecond, .int .u32 yfwd, .int .i64 ytag]) 42 (0, 0))) := Lib.hid (by rw [← hWC]; exact alloc_new _ _)
          have RC := Lib.hid (R9.out.grow BC)
          have OWN := Lib.hid RC.out.row.row
          have PU := Lib.hid (fun v' wB own' hg m => PUSH.out WC wB v' RC.out rfl rfl ⟨atL ⟨ytyp, yid, ylen, yrouter, yseq, yage, ysum, yborder, yboundary, yla, yln, ylc, yaa, yan, yac, ycost, ysecond, yfwd, ytag⟩ la lc aa ac, ylk, yatt⟩ rfl (LA9.out.below BC) (WA9.out.below BC) FA1.out FA2.out own' hg m)
          have ONE : Hid (∀ u ∈ ([.int .i64 ytyp, .int .u32 yid, .int .i64 ylen, .int .u32 yrouter, .int .i64 yseq, .int .i64 yage, .int .i64 ysum, .bool yborder, .bool yboundary, .slice la yln lc, .slice aa yan ac, .int .i64 ycost, .bool ysecond, .int .u32 yfwd, .int .i64 ytag] : List Value), u.oneCell' = true) := Lib.hid (lsaE_one (atL ⟨ytyp, yid, ylen, yrouter, yseq, yage, ysum, yborder, yboundary, yla, yln, ylc, yaa, yan, yac, ycost, ysecond, yfwd, ytag⟩ la lc aa ac))
          have OL : Hid ((out.map LsaD.x).length ≤ 1048576) := Lib.hid (by rw [List.length_map]; have := RC.out.len; have := HM.out; have := KC.out; omega)
          have MX1 : Hid ((out.map LsaD.x).length + 1 ≤ maxLen) := Lib.hid (by have := OL.out; unfold maxLen; omega)
          have MX2 : Hid (((out.map LsaD.x).length + 1) * 136 ≤ 140737488355328) := Lib.hid (Nat.le_trans (Nat.mul_le_mul_right 136 (Nat.succ_le_succ OL.out)) (by decide))
          have BS : Hid (W.heap.size ≤ WC.heap.size) := Lib.hid RC.out.bel.size
          have HWC := Lib.hid hWC
          simp only [atL, lsaE] at PU
          unfold LsaRow at OWN
          clear hWC BC R9 RC LA9 WA9 SKIP PUSH b9 OL FA1 FA2
          go_wp2_with (at_builtin; rw [HWC.out]; refine wpList_append_one rfl (.tmp 61) (.tmp 63) 29 rfl W.heap.size 42 i0' (.agg #[.int .i64 0, .int .u32 0, .int .i64 0, .int .u32 0, .int .i64 0, .int .i64 0, .int .i64 0, .bool false, .bool false, .slice none 0 0, .slice none 0 0, .int .i64 0, .bool false, .int .u32 0, .int .i64 0]) 15 136 Tryz.underlying29 ?g1 ?g2 ?g3 ?g4 ?g5 ?g6 vA _ _ ?g7 OWN.out W9.heap.size [.int .i64 ytyp, .int .u32 yid, .int .i64 ylen, .int .u32 yrouter, .int .i64 yseq, .int .i64 yage, .int .i64 ysum, .bool yborder, .bool yboundary, .slice la yln lc, .slice aa yan ac, .int .i64 ycost, .bool ysecond, .int .u32 yfwd, .int .i64 ytag] 42 ?g8 BK.out ?g9 ONE.out MX1.out MX2.out BS.out ?_; (case g1 => exact HI0.out); (case g2 => exact HZ0.out); (case g3 => exact HZ1.out); (case g4 => exact HZ2.out); (case g5 => exact rfl); (case g6 => decide); (case g7 => exact rfl); (case g8 => exact rfl); (case g9 => exact rfl); intro v' wB own' hgB dd; have NX := Lib.hid (PU.out v' wB own' hgB dd); clear own' hgB dd)
          go_roundw
          case rel => exact ⟨k + 1, _, by go_num, NX⟩
          case measure => simp [intOf]; have := KC.out; omega
      · have q' : (rc != 0) = true := by simpa using qc
        have FI := Lib.hid (fun (v12 v14 v15 v16 v17 v46 v47 v48 v49 v50 v51 v52 v53 v54 v55 v56 v57 v58 v59 v60 v61 v62 v63 v64 v65 : Value) (W' : World) (hb : Below w8.heap.size w8 W') => STOP.out v12 v14 v15 v16 v17 v46 v47 v48 v49 v50 v51 v52 v53 v54 v55 v56 v57 v58 v59 v60 v61 v62 v63 v64 v65 W' (R8.out.bel.trans (hb.mono R8.out.bel.size)) qc)
        clear STOP SKIP PUSH qc HQ HR
        go_upto_region 18 with fail
        generalize hW9 : w8.alloc _ = W9
        have B9 := Lib.hid (show Below w8.heap.size w8 W9 by rw [← hW9]; exact (Below.refl _ _).alloc (Nat.le_refl _) _)
        clear hW9
        go_wp2_with fail
        exact FI.out _ _ _ _ _ _ _ _ _ _ _ _ _ _ _ _ _ _ _ _ _ _ _ _ _ W9 B9.out
    · obtain rfl : k = n := by have := SN.out; omega
      clear HR
      go_wp2_with fail
      exact HQ.out _ _ _ _ _ _ _ _ _ _ _ _ _ _ _ _ _ _ _ _ _ _ _ _ _ _ _ _ _ R.out

end Go.Proofs.YtddageahmgaigaaGreat

namespace Go.Proofs.YtddageahmgaigaaGreat
open Go.RowKit

theorem SlV.farO {k : Nat} {w w' : World} {u : Value} {css : List (List Value)} {B : Nat} {row : Option Nat} (h : SlV k w u css) (f : Fr B u) (hr : ∀ r, row = some r → r < B) (hg : w.grownBy w' row) : SlV k w' u css :=
  SlV.kept h hg fun b off n c e h => by have := f b off n c e; have := hr b h; omega

set_option maxHeartbeats 16000000 in
set_option maxRecDepth 100000 in
theorem pl_loop3 (Q : Exit → Act → World → Prop) (W : World) (base mb nk : Nat) (v0 : Value) (out0 own : List LsaD) (f : Kk → Option Bool) (OR : ORow base W v0 out0) (hb : base ≤ W.heap.size) (M : LMap W mb nk f) (hmb : mb < base) (two : ∀ k, f k = none ∨ f k = some true)
    (gF m cF : Nat) (OWN : DRow W (.slice (some ⟨gF, 0, none⟩) m cF) own) (hn : own.length = m) (hm : m ≤ 1048576) (ho : out0.length ≤ 1048576) (FG : ∀ b, v0.ownBlock = some b → b < gF) (FD : ∀ d ∈ own, Fr (gF + 1) (.slice d.x.la d.x.ln d.x.lc) ∧ Fr (gF + 1) (.slice d.x.aa d.x.an d.x.ac)) (dl : ∀ d ∈ own, d.lk.length ≤ 1048576 ∧ d.att.length ≤ 1048576) (wk : ∀ d ∈ own, lkOk (keyD d)) (u0 u1 u2 u3 u4 u5 u6 u7 u8 u10 u11 u13 u14 u15 u16 u17 u18 u19 u20 u21 u22 u23 u24 u25 u26 u27 u28 u29 u30 u31 u32 u33 u34 u35 u36 u37 u38 u39 u40 u41 u42 u43 u44 u45 u46 u47 u48 u49 u50 u51 u52 u53 u54 u55 u56 u57 u58 u59 u60 u61 u62 u63 u64 u65 u66 u67 u71 u72 u73 u74 u75 u76 u77 u78 u79 u80 u81 u82 u83 u84 u85 u86 u87 u88 u89 u90 u91 u92 u93 u94 : Value)
    (HQ0 : ∀ (v12 v19 v70 v71 v72 v73 v74 v75 v76 v77 v78 v79 v80 v81 v82 v83 v84 v85 v86 v87 v88 v89 v90 v91 : Value) (out : List LsaD) (w' : World), PL3 base W v0.ownBlock f own out0 m v12 out w' → Q (.exit 4) ⟨#[u0, u1, u2, u3, u4, u5, u6, u7, u8, .map (some mb), u10, u11, v12, u13, u14, u15, u16, u17, u18, v19, u20, u21, u22, u23, u24, u25, u26, u27, u28, u29, u30, u31, u32, u33, u34, u35, u36, u37, u38, u39, u40, u41, u42, u43, u44, u45, u46, u47, u48, u49, u50, u51, u52, u53, u54, u55, u56, u57, u58, u59, u60, u61, u62, u63, u64, u65, u66, u67, .slice (some ⟨gF, 0, none⟩) m cF, .int .i64 (m : Int), v70, v71, v72, v73, v74, v75, v76, v77, v78, v79, v80, v81, v82, v83, v84, v85, v86, v87, v88, v89, v90, v91, u92, u93, u94], []⟩ w') :
    Code.wp Tryz.prog (.loop (plBody 2)) Q ⟨#[u0, u1, u2, u3, u4, u5, u6, u7, u8, .map (some mb), u10, u11, v0, u13, u14, u15, u16, u17, u18, u19, u20, u21, u22, u23, u24, u25, u26, u27, u28, u29, u30, u31, u32, u33, u34, u35, u36, u37, u38, u39, u40, u41, u42, u43, u44, u45, u46, u47, u48, u49, u50, u51, u52, u53, u54, u55, u56, u57, u58, u59, u60, u61, u62, u63, u64, u65, u66, u67, .slice (some ⟨gF, 0, none⟩) m cF, .int .i64 (m : Int), .int .i64 0, u71, u72, u73, u74, u75, u76, u77, u78, u79, u80, u81, u82, u83, u84, u85, u86, u87, u88, u89, u90, u91, u92, u93, u94], []⟩ W := by
  conv => enter [2, 1]; whnf
  have HQ := Lib.hid HQ0
  have HM := Lib.hid hm
  have HO := Lib.hid ho
  obtain ⟨i0', hi0, hz0, hz1, hz2⟩ := info_parts Tryz.infoLsa
  have HI0 := Lib.hid hi0
  have HZ0 := Lib.hid hz0
  have HZ1 := Lib.hid hz1
  have HZ2 := Lib.hid hz2
  clear hi0 hz0 hz1 hz2
  have SN := Lib.hid hn
  have HCC := Lib.hid (fun k (ck : k < m) (wr : World) (g : W.grownBy wr v0.ownBlock) => (by
    have h1 : LsasAt wr (.slice (some ⟨gF, 0, none⟩) m cF) (own.map LsaD.x) := SlV.kept OWN.row g (fun b off n c e h => by cases e; exact absurd (FG gF h) (Nat.lt_irrefl _))
    obtain ⟨a', c', ev, -, hc1⟩ := h1.get
    rw [List.length_map, hn] at ev
    simp only [Value.slice.injEq] at ev
    obtain ⟨rfl, -, rfl⟩ := ev
    obtain ⟨b, off, ea, hb, hcc⟩ := hc1 (by rw [List.length_map, hn]; omega)
    cases ea
    have h := hcc k (by rw [List.length_map, hn]; exact ck)
    rw [List.getElem_map, Nat.zero_add] at h
    exact h : LsaCells wr gF (k * 15) (own[k]'(by omega)).x))
  have FLC := Lib.hid (fun k (ck : k < m) (wr WW : World) (g : W.grownBy wr v0.ownBlock) (hb : Below wr.heap.size wr WW) => flush_calls (own[k]'(by omega)).x (own[k]'(by omega)).lk (own[k]'(by omega)).att WW (by
    have hd := List.getElem_mem (l := own) (n := k) (by omega)
    have h1 := OWN.deep _ hd
    have h2 := FD _ hd
    have h3 := dl _ hd
    exact ⟨(SlV.farO h1.1 h2.1 (fun r hr => Nat.lt_succ_of_lt (FG r hr)) g).below hb, (SlV.farO h1.2 h2.2 (fun r hr => Nat.lt_succ_of_lt (FG r hr)) g).below hb, h3.1, h3.2⟩))
  have WK := Lib.hid (fun k (ck : k < m) => wk (own[k]'(by omega)) (List.getElem_mem _))
  have MK := Lib.hid (fun (wr : World) (g : W.grownBy wr v0.ownBlock) => MapF.kept M g (by
    intro h
    have := (World.ownsRow.lt OR.row mb h.symm).1
    omega))
  have ST : Hid (PL3 base W v0.ownBlock f own out0 0 v0 out0 W) := Lib.hid ⟨Nat.zero_le _, OR, by simp, World.grownBy.refl _ _, .inl rfl⟩
  have BB := Lib.hid hb
  have TWO := Lib.hid two
  clear HQ0 hm ho OR hb M hmb two OWN FG FD dl wk
  generalize v0.ownBlock = g0 at *
  dsimp only
  go_loopw [70, 12] (fun ix vx wr => ∃ (k : Nat) (out : List LsaD), ix = .int .i64 k ∧ Hid (PL3 base W g0 f own out0 k vx out wr)) (fun ix _ _ => m - (intOf ix).toNat)
  case atStart => exact ⟨0, out0, rfl, ST⟩
  case round =>
    clear ST
    obtain ⟨k, out, rfl, R⟩ := hrel
    obtain ⟨vA, hvA⟩ : ∃ z, z = u12 := ⟨_, rfl⟩
    subst hvA
    have hk := R.out.hi
    by_cases ck : k < m
    · obtain ⟨WO, eWO⟩ : ∃ x, x = wr := ⟨_, rfl⟩
      subst eWO
      have hcc1 := HCC.out k ck WO R.out.gr
      have FLk := Lib.hid (fun WW hb => FLC.out k ck WO WW R.out.gr hb)
      have KO := Lib.hid (WK.out k ck)
      have MO := Lib.hid (MK.out WO R.out.gr)
      obtain ⟨⟨d0, d1, d2, d3, d4⟩, ⟨d5, d6, d7, d8, d9⟩, ⟨d10, d11, d12, d13, d14⟩⟩ := hcc1
      have cs : k < own.length := by rw [SN.out]; exact ck
      have SKIP := Lib.hid (fun (W' : World) (r : PL3 base W g0 f own out0 k vA out W') h => r.skip cs h)
      have PUSH := Lib.hid (fun (W' wB : World) (v' : Value) (r : PL3 base W g0 f own out0 k vA out W') h (y : LsaD) hy h1 h2 f1 f2 own' hg m => r.push (w' := wB) (v' := v') cs h (y := y) hy h1 h2 f1 f2 own' hg m)
      have OB : Hid (oldB f own[k] = (decide (own[k].x.age < 3600) && (f ⟨own[k].x.typ, own[k].x.id, own[k].x.len, own[k].x.router⟩).isNone)) := Lib.hid rfl
      have hkD : keyD own[k] = ⟨own[k].x.typ, own[k].x.id, own[k].x.len, own[k].x.router⟩ := rfl
      rw [hkD] at KO
      simp only [OB.out] at SKIP PUSH
      have KC := Lib.hid ck
      have i0 : (0 : Int) ≤ (k : Int) := by omega
      have i1 : (k : Int) < (m : Int) := by omega
      have s3 : ((k : Int)).toNat = k := by omega
      have hm2 := HM.out
      clear OB hkD
      generalize own[k] = d at *
      clear ck cs
      obtain ⟨⟨xtyp, xid, xlen, xrouter, xseq, xage, xsum, xborder, xboundary, xla, xln, xlc, xaa, xan, xac, xcost, xsecond, xfwd, xtag⟩, lk, att⟩ := d
      simp only at d0 d1 d2 d3 d4 d5 d6 d7 d8 d9 d10 d11 d12 d13 d14 KO SKIP PUSH
      simp only [lsaE] at FLk
      go_upto_region 26 with fail
      generalize hW5 : WO.alloc _ = W5
      have B5 : Below WO.heap.size WO W5 := by rw [← hW5]; exact (Below.refl _ _).alloc (Nat.le_refl _) _
      have b5 := Lib.hid (show W5.heap[WO.heap.size]? = some (.cells #[.int .i64 xtyp, .int .u32 xid, .int .i64 xlen, .int .u32 xrouter, .int .i64 xseq, .int .i64 xage, .int .i64 xsum, .bool xborder, .bool xboundary, .slice xla xln xlc, .slice xaa xan xac, .int .i64 xcost, .bool xsecond, .int .u32 xfwd, .int .i64 xtag] 42 (0, 0)) by rw [← hW5]; exact alloc_new _ _)
      have R5 := Lib.hid (R.out.grow B5)
      have M5 := Lib.hid (MO.out.grow B5)
      have FL5 := Lib.hid (fun WW (hb : Below W5.heap.size W5 WW) => FLk.out WW (B5.trans (hb.mono B5.size)))
      have K1 := Lib.hid (fun W => pkey_calls xtyp xid xlen xrouter xseq xage xsum W)
      simp only [keyE] at K1
      obtain ⟨⟨⟨e0, e1, e2, e3, e4⟩, ⟨e5, e6, e7, e8, e9⟩, ⟨e10, e11, e12, e13, e14⟩⟩, -⟩ := blk15 b5.out
      clear hW5 B5 d0 d1 d2 d3 d4 d5 d6 d7 d8 d9 d10 d11 d12 d13 d14 R FLk MO
      by_cases qa : xage < 3600
      case neg =>
        have dq : decide (xage < 3600) = false := decide_eq_false qa
        have NX := Lib.hid (SKIP.out W5 R5.out (by rw [dq]; rfl))
        clear SKIP PUSH R5 M5 FL5 K1 b5 qa
        go_wp2_with fail
        go_roundw
        case rel => exact ⟨k + 1, out, by go_num, NX⟩
        case measure => simp [intOf]; have := KC.out; omega
      case pos =>
        have dq : decide (xage < 3600) = true := decide_eq_true qa
        rw [dq] at SKIP PUSH
        clear qa
        go_wp2_with fail
        refine (K1.out _).mono ?_
        rintro e w8 ⟨rfl, G8⟩
        have R8 := Lib.hid (R5.out.grow G8.b)
        have M8 := Lib.hid (M5.out.grow G8.b)
        have b8 := Lib.hid ((G8.b.block _ (blk_lt b5.out)).trans b5.out)
        have FL8 := Lib.hid (fun WW (hb : Below w8.heap.size w8 WW) => FL5.out WW (G8.b.trans (hb.mono G8.b.size)))
        clear G8 R5 M5 b5 FL5 K1 e0 e1 e2 e3 e4 e5 e6 e7 e8 e9 e10 e11 e12 e13 e14
        rcases TWO.out ⟨xtyp, xid, xlen, xrouter⟩ with hf | hf
        · have HF := Lib.hid hf
          rw [hf] at PUSH
          clear hf SKIP
          obtain ⟨⟨⟨e0, e1, e2, e3, e4⟩, ⟨e5, e6, e7, e8, e9⟩, ⟨e10, e11, e12, e13, e14⟩⟩, -⟩ := blk15 b8.out
          have LU := MapF.run_none Tryz.lkKey Tryz.underlying106 (Tryz.zeroBool _) M8.out KO.out HF.out
          simp only [lkV] at LU
          go_wp2_with fail
          refine (FL8.out _ (Below.refl _ _)).mono ?_
          rintro e w9 ⟨la, lc, aa, ac, rfl, LA, WA, B9, FL, FA⟩
          simp only [lsaE, atL]
          have R9 := Lib.hid (R8.out.grow B9)
          have FA1 : Hid (Far vA (.slice la xln lc)) := Lib.hid (Far.new R8.out.row.row FL (Nat.le_refl _))
          have FA2 : Hid (Far vA (.slice aa xan ac)) := Lib.hid (Far.new R8.out.row.row FA (Nat.le_refl _))
          obtain ⟨WC, hWC⟩ : ∃ WC, w9.alloc (.cells #[.int .i64 xtyp, .int .u32 xid, .int .i64 xlen, .int .u32 xrouter, .int .i64 xseq, .int .i64 3600, .int .i64 xsum, .bool xborder, .bool xboundary, .slice la xln lc, .slice aa xan ac, .int .i64 xcost, .bool xsecond, .int .u32 xfwd, .int .i64 xtag] 42) = WC := ⟨_, rfl⟩
          have BC : Below w9.heap.size w9 WC := by rw [← hWC]; exact (Below.refl _ _).alloc (Nat.le_refl _) _
          have BK : Hid (WC.heap[w9.heap.size]? = some (.cells (List.toArray [.int .i64 xtyp, .int .u32 xid, .int .i64 xlen, .int .u32 xrouter, .int .i64 xseq, .int .i64 3600, .int .i64 xsum, .bool xborder, .bool xboundary, .slice la xln lc, .slice aa xan ac, .int .i64 xcost, .bool xsecond, .int .u32 xfwd, .int .i64 xtag]) 42 (0, 0))) := Lib.hid (by rw [← hWC]; exact alloc_new _ _)
          have RC := Lib.hid (R9.out.grow BC)
          have OWN := Lib.hid RC.out.row.row
          have PU := Lib.hid (fun v' wB own' hg m => PUSH.out WC wB v' RC.out rfl ⟨atL ⟨xtyp, xid, xlen, xrouter, xseq, 3600, xsum, xborder, xboundary, xla, xln, xlc, xaa, xan, xac, xcost, xsecond, xfwd, xtag⟩ la lc aa ac, lk, att⟩ rfl (LA.below BC) (WA.below BC) FA1.out FA2.out own' hg m)
          have ONE : Hid (∀ u ∈ ([.int .i64 xtyp, .int .u32 xid, .int .i64 xlen, .int .u32 xrouter, .int .i64 xseq, .int .i64 3600, .int .i64 xsum, .bool xborder, .bool xboundary, .slice la xln lc, .slice aa xan ac, .int .i64 xcost, .bool xsecond, .int .u32 xfwd, .int .i64 xtag] : List Value), u.oneCell' = true) := Lib.hid (lsaE_one (atL ⟨xtyp, xid, xlen, xrouter, xseq, 3600, xsum, xborder, xboundary, xla, xln, xlc, xaa, xan, xac, xcost, xsecond, xfwd, xtag⟩ la lc aa ac))
          have OL : Hid ((out.map LsaD.x).length ≤ 2097152) := Lib.hid (by rw [List.length_map]; have := RC.out.len; have := HM.out; have := KC.out; have := HO.out; omega)
          have MX1 : Hid ((out.map LsaD.x).length + 1 ≤ maxLen) := Lib.hid (by have := OL.out; unfold maxLen; omega)
          have MX2 : Hid (((out.map LsaD.x).length + 1) * 136 ≤ 140737488355328) := Lib.hid (Nat.le_trans (Nat.mul_le_mul_right 136 (Nat.succ_le_succ OL.out)) (by decide))
          have BS : Hid (base ≤ WC.heap.size) := Lib.hid (Nat.le_trans BB.out RC.out.gr.size)
          have HWC := Lib.hid hWC
          simp only [atL, lsaE] at PU
          unfold LsaRow at OWN
          clear hWC BC R9 RC R8 M8 LA WA B9 FL FA PUSH b8 OL FA1 FA2 FL8 e0 e1 e2 e3 e4 e5 e6 e7 e8 e9 e10 e11 e12 e13 e14
          go_wp2_with (at_builtin; rw [HWC.out]; refine wpList_append_one rfl (.tmp 86) (.tmp 89) 29 rfl base 42 i0' (.agg #[.int .i64 0, .int .u32 0, .int .i64 0, .int .u32 0, .int .i64 0, .int .i64 0, .int .i64 0, .bool false, .bool false, .slice none 0 0, .slice none 0 0, .int .i64 0, .bool false, .int .u32 0, .int .i64 0]) 15 136 Tryz.underlying29 ?g1 ?g2 ?g3 ?g4 ?g5 ?g6 vA _ _ ?g7 OWN.out w9.heap.size [.int .i64 xtyp, .int .u32 xid, .int .i64 xlen, .int .u32 xrouter, .int .i64 xseq, .int .i64 3600, .int .i64 xsum, .bool xborder, .bool xboundary, .slice la xln lc, .slice aa xan ac, .int .i64 xcost, .bool xsecond, .int .u32 xfwd, .int .i64 xtag] 42 ?g8 BK.out ?g9 ONE.out MX1.out MX2.out BS.out ?_; (case g1 => exact HI0.out); (case g2 => exact HZ0.out); (case g3 => exact HZ1.out); (case g4 => exact HZ2.out); (case g5 => exact rfl); (case g6 => decide); (case g7 => exact rfl); (case g8 => exact rfl); (case g9 => exact rfl); intro v' wB own' hgB dd; have NX := Lib.hid (PU.out v' wB own' hgB dd); clear own' hgB dd)
          go_roundw
          case rel => exact ⟨k + 1, _, by go_num, NX⟩
          case measure => simp [intOf]; have := KC.out; omega
        · have HF := Lib.hid hf
          have NX := Lib.hid (SKIP.out w8 R8.out (by rw [hf]; rfl))
          clear hf SKIP PUSH R8 FL8 b8
          have LU := MapF.run_some Tryz.lkKey Tryz.underlying106 (Tryz.zeroBool _) M8.out KO.out HF.out
          simp only [lkV, boolV] at LU
          go_wp2_with fail
          go_roundw
          case rel => exact ⟨k + 1, out, by go_num, NX⟩
          case measure => simp [intOf]; have := KC.out; omega
    · obtain rfl : k = m := by have := SN.out; omega
      go_wp2_with fail
      exact HQ.out _ _ _ _ _ _ _ _ _ _ _ _ _ _ _ _ _ _ _ _ _ _ _ _ _ _ R.out

end Go.Proofs.YtddageahmgaigaaGreat

namespace Go.Proofs.YtddageahmgaigaaGreat
open Go.RowKit

theorem nx_key {db : List LsaD} {d : LsaD} (h : (nx db d).ok = true) : lkOf (nx db d).y.x = lkOf d.x := by
  rcases nx_is db d with ⟨e, -⟩ | ⟨e, -⟩ | ⟨-, -, s, e, -⟩
  · rw [e] at h; cases h
  · rw [e] at h; cases h
  · rw [e]; rfl

theorem nrm_f {α : Type} (f : LsaD → α) (hf : ∀ d, f (nrm d) = f d) {a b : LsaD} (h : nrm a = nrm b) : f a = f b := by rw [← hf a, ← hf b, h]
theorem kF_two (s : List LsaD) (i : Nat) (k : Kk) : kF s i k = none ∨ kF s i k = some true := by
  unfold kF
  by_cases m : k ∈ (s.take i).map keyD
  · exact .inr (if_pos m)
  · exact .inl (if_neg m)
theorem DbOk.nd {db : List LsaD} (h : DbOk db) : (db.map keyD).Nodup := by
  rw [List.Nodup, List.pairwise_map, List.pairwise_iff_getElem]
  intro i j hi hj hij e
  have h2 := h.asc (j - i - 1) i (by omega)
  rw [show i + (j - i - 1) + 1 = j from by omega, dAt_get hi, dAt_get hj, kk_neg] at h2
  have e' : lkOf db[i].x = lkOf db[j].x := e
  rw [e'] at h2
  omega

theorem plan_fin {db wt s own out : List LsaD} {rt : Int} (dn : (db.map keyD).Nodup) (hp : s.Perm wt) (ha : AscD s) (nd : (s.map keyD).Nodup) (hr : ∀ d ∈ wt, d.x.router = rt) (hc : ∀ d ∈ s, (nx db d).c = 0)
    (ho : own.map nrm = (db.filter (ownD rt)).map nrm) (he : out.map nrm = ((s.filter fun d => (nx db d).ok).map fun d => nrm (nx db d).y) ++ (own.filter (oldB (kF s s.length))).map fun d => nrm (flD d)) {xs : List LsaD} (hx : xs.Perm out) (hs : (xs.map LsaD.x).Pairwise fun a b => 0 ≤ kkCmp (lkOf b) (lkOf a)) :
    PlanIs db rt wt 0 (xs.map nrm) := by
  have hk : ∀ k, kF s s.length k = none ↔ k ∉ s.map keyD := by
    intro k
    unfold kF
    rw [List.take_length]
    by_cases m : k ∈ s.map keyD <;> simp only [m, if_true, if_false, not_true, not_false_iff, iff_false] <;> simp
  have mem : ∀ y, y ∈ out.map nrm ↔ PlanEl db rt wt y := by
    intro y
    rw [he, List.mem_append]
    constructor
    · rintro (h | h)
      · obtain ⟨d, h1, rfl⟩ := List.mem_map.1 h
        obtain ⟨h2, h3⟩ := List.mem_filter.1 h1
        exact .inl ⟨d, hp.mem_iff.1 h2, by simpa using h3, rfl⟩
      · obtain ⟨d, h1, rfl⟩ := List.mem_map.1 h
        obtain ⟨h2, h3⟩ := List.mem_filter.1 h1
        have h4 : nrm d ∈ (db.filter (ownD rt)).map nrm := by rw [← ho]; exact List.mem_map_of_mem h2
        obtain ⟨d', h5, h6⟩ := List.mem_map.1 h4
        obtain ⟨h7, h8⟩ := List.mem_filter.1 h5
        unfold oldB at h3
        rw [Bool.and_eq_true, decide_eq_true_eq, Option.isNone_iff_eq_none] at h3
        have e1 : d'.x.age = d.x.age := nrm_f (fun z : LsaD => z.x.age) (fun _ => rfl) h6
        have e2 : lkOf d'.x = lkOf d.x := nrm_f (fun z : LsaD => lkOf z.x) (fun _ => rfl) h6
        refine .inr ⟨d', h7, by simpa [ownD] using h8, by rw [e1]; exact h3.1, fun e he' e3 => ?_, ?_⟩
        · refine (hk _).1 h3.2 (List.mem_map.2 ⟨e, hp.mem_iff.2 he', ?_⟩)
          show lkOf e.x = lkOf d.x
          rw [e3, e2]
        · exact (nrm_f (fun z : LsaD => nrm (flD z)) (fun _ => rfl) h6).symm
    · rintro (⟨d, h1, h2, rfl⟩ | ⟨d, h1, h2, h3, h4, rfl⟩)
      · exact .inl (List.mem_map.2 ⟨d, List.mem_filter.2 ⟨hp.mem_iff.2 h1, by simpa using h2⟩, rfl⟩)
      · have h5 : nrm d ∈ own.map nrm := by rw [ho]; exact List.mem_map_of_mem (List.mem_filter.2 ⟨h1, by simpa [ownD] using h2⟩)
        obtain ⟨d', h6, h7⟩ := List.mem_map.1 h5
        have e1 : d'.x.age = d.x.age := nrm_f (fun z : LsaD => z.x.age) (fun _ => rfl) h7
        have e2 : lkOf d'.x = lkOf d.x := nrm_f (fun z : LsaD => lkOf z.x) (fun _ => rfl) h7
        refine .inr (List.mem_map.2 ⟨d', List.mem_filter.2 ⟨h6, ?_⟩, nrm_f (fun z : LsaD => nrm (flD z)) (fun _ => rfl) h7⟩)
        unfold oldB
        rw [Bool.and_eq_true, decide_eq_true_eq, Option.isNone_iff_eq_none]
        refine ⟨by rw [e1]; exact h3, (hk _).2 fun m => ?_⟩
        obtain ⟨e, he1, he2⟩ := List.mem_map.1 m
        exact h4 e (hp.mem_iff.1 he1) ((show lkOf e.x = lkOf d'.x from he2).trans e2)
  -- no key twice
  have ndk : (out.map keyD).Nodup := by
    have e : out.map keyD = (out.map nrm).map keyD := by rw [List.map_map]; rfl
    rw [e, he, List.map_append, List.nodup_append]
    have n1 : ((s.filter fun d => (nx db d).ok).map fun d => nrm (nx db d).y).map keyD = (s.filter fun d => (nx db d).ok).map keyD := by
      rw [List.map_map]
      refine List.map_congr_left fun d hd => ?_
      exact nx_key (by simpa using (List.mem_filter.1 hd).2)
    have n2 : ((own.filter (oldB (kF s s.length))).map fun d => nrm (flD d)).map keyD = (own.filter (oldB (kF s s.length))).map keyD := by
      rw [List.map_map]; rfl
    rw [n1, n2]
    refine ⟨?_, ?_, ?_⟩
    · exact List.Nodup.sublist (List.filter_sublist.map keyD) nd
    · have h1 : (own.map keyD).Nodup := by
        have e2 : own.map keyD = (own.map nrm).map keyD := by rw [List.map_map]; rfl
        rw [e2, ho, List.map_map]
        have h2 : (db.map keyD).Nodup := dn
        exact List.Nodup.sublist (List.filter_sublist.map keyD) h2
      exact List.Nodup.sublist (List.filter_sublist.map keyD) h1
    · intro a ha' b hb' e
      subst e
      obtain ⟨d, h1, rfl⟩ := List.mem_map.1 ha'
      obtain ⟨d', h2, h3⟩ := List.mem_map.1 hb'
      have h4 := (List.mem_filter.1 h2).2
      unfold oldB at h4
      rw [Bool.and_eq_true, decide_eq_true_eq, Option.isNone_iff_eq_none] at h4
      refine (hk _).1 h4.2 ?_
      rw [h3]
      exact List.mem_map_of_mem (List.mem_filter.1 h1).1
  have asc : AscD xs := asc_sorted hs ((hx.map keyD).nodup_iff.2 ndk)
  refine .inr (.inr ⟨hr, (hp.map keyD).nodup_iff.1 nd, s, hp, ha, .inr ⟨hc, rfl, ?_, fun y => ?_⟩⟩)
  · exact List.pairwise_map.2 asc
  · rw [(hx.map nrm).mem_iff]; exact mem y

set_option maxHeartbeats 16000000 in
set_option maxRecDepth 100000 in
theorem plan_calls (w : World) (v v2 : Value) (db wt : List LsaD) (rt : Int) (D : DbN w v db) (hdn : db.length ≤ 1048576) (WT : DbAt w v2 wt) (wl : ∀ d ∈ wt, d.lk.length ≤ 1048576 ∧ d.att.length ≤ 1048576) (wk : ∀ d ∈ wt, lkOk (keyD d)) (dk : ∀ d ∈ db, lkOk (keyD d)) (hwn : wt.length ≤ 1048576) :
    Calls Tryz.prog 22 #[v, .int .u32 rt, v2] w (PlanPost w db rt wt) := by
  obtain ⟨W0, hW0⟩ : ∃ W0, w.alloc (.cells #[.int .u32 rt] 22) = W0 := ⟨_, rfl⟩
  have B0 : Hid (Below w.heap.size w W0) := Lib.hid (by rw [← hW0]; exact (Below.refl _ _).alloc (Nat.le_refl _) _)
  have X0 : Hid (W0.heap[w.heap.size]? = some (.cells #[.int .u32 rt] 22 (0, 0))) := Lib.hid (by rw [← hW0]; exact alloc_new _ _)
  have CT := Lib.hid (contains_calls W0 v2 (wt.map LsaD.x) (WT.1.below B0.out) rt w.heap.size X0.out)
  have CN := Lib.hid (fun W (hb : Below w.heap.size w W) => cla_calls W v2 (wt.map LsaD.x) (WT.1.below hb) (by rw [List.length_map]; exact hwn))
  have SO := Lib.hid (fun base W v l h hl => sort_lsas base W v l h hl)
  have FM := Lib.hid (fun W (hb : Below w.heap.size w W) => from_calls W v db ⟨D.at'.1.below hb, fun d hd => ⟨((D.at'.2 d hd).below hb).lk, ((D.at'.2 d hd).below hb).att⟩⟩ D.len hdn rt)
  have HD := Lib.hid D
  have HWT := Lib.hid WT.2
  have HWL := Lib.hid wl
  have HWK := Lib.hid wk
  have HDK := Lib.hid dk
  have HWN := Lib.hid hwn
  have HDN := Lib.hid hdn
  have hmm := @run_makeMap Tryz.prog
  obtain ⟨va, vc, rfl, -, -⟩ := D.at'.1.get
  obtain ⟨wa, wc, rfl, -, -⟩ := WT.1.get
  obtain ⟨nd, hnd⟩ : ∃ nd, (db.map LsaD.x).length = nd := ⟨_, rfl⟩
  obtain ⟨nv, hnv⟩ : ∃ nv, (wt.map LsaD.x).length = nv := ⟨_, rfl⟩
  have NV : Hid (wt.length = nv) := Lib.hid (by rw [← hnv, List.length_map])
  obtain ⟨wx, hwx⟩ : ∃ wx, wt.map LsaD.x = wx := ⟨_, rfl⟩
  have WX := Lib.hid hwx
  have FORT := Lib.hid (fun (h : forB wx rt = true) => (by
    unfold forB at h
    rw [← WX.out] at h
    obtain ⟨x, h1, h2⟩ := List.any_eq_true.1 h
    obtain ⟨d, h3, rfl⟩ := List.mem_map.1 h1
    exact ⟨d, h3, by simpa using h2⟩ : ∃ d ∈ wt, d.x.router ≠ rt))
  have FORF := Lib.hid (fun (h : forB wx rt = false) => (by
    unfold forB at h
    rw [← WX.out] at h
    intro d hd
    have := List.any_eq_false.1 h d.x (List.mem_map_of_mem hd)
    simpa using this : ∀ d ∈ wt, d.x.router = rt))
  rw [hnd] at HD FM ⊢
  rw [hwx] at hnv
  rw [hwx, hnv] at CT CN
  rw [hwx, hnv]
  have HNV := Lib.hid hnv
  have HW0 := Lib.hid hW0
  clear hW0 D hdn WT wl wk dk hwn hnd hnv hwx
  unfold cloP at CT
  go_enter Tryz.func22, Tryz.ntmps22
  go_upto_region 1 with fail
  rw [HW0.out]
  go_wp2_with fail
  refine CT.out.mono ?_
  rintro e w1 ⟨rfl, G1⟩
  have B1 := Lib.hid (B0.out.trans (G1.b.mono B0.out.size))
  have X1 := Lib.hid ((G1.b.block _ (blk_lt X0.out)).trans X0.out)
  clear G1 CT B0 X0 HW0
  cases hfor : forB wx rt with
  | true =>
    have FI : Hid (PlanPost w db rt wt (.returned (.tuple #[.slice none 0 0, .int .i64 14])) w1) := Lib.hid ⟨14, [], _, [], .inl ⟨FORT.out hfor, rfl, rfl⟩, rfl, ⟨⟨none, 0, rfl, Nat.le_refl _, by unfold maxLen; omega, fun _ => rfl, fun h => absurd h (by simp)⟩, fun d h => by cases h⟩, rfl, B1.out⟩
    clear hfor CN SO FM FORT FORF
    go_wp2_with fail
    exact bodyPost_ret (v := .tuple #[.slice none 0 0, .int .i64 14]) (by simp [results, Tryz.results22, go_sem]) rfl FI.out
  | false =>
  have RTA := Lib.hid (FORF.out hfor)
  have CN1 := Lib.hid (CN.out w1 B1.out)
  clear hfor CN FORT FORF
  go_wp2_with fail
  refine CN1.out.mono ?_
  rintro e w2 ⟨a, c, rfl, row2, B2⟩
  simp only [HNV.out] at row2 ⊢
  have B12 := Lib.hid (B1.out.trans (B2.mono B1.out.size))
  have X2 := Lib.hid ((B2.block _ (blk_lt X1.out)).trans X1.out)
  have SO2 := Lib.hid (SO.out _ w2 _ _ row2 (by have h1 := HNV.out; have h2 := NV.out; have h3 := HWN.out; omega))
  have S12 := Lib.hid B1.out.size
  have RBL := Lib.hid (blk_lt X1.out)
  clear CN1 B2 row2 B1 X1
  go_wp2_with fail
  refine SO2.out.mono ?_
  rintro e w3 ⟨rfl, l', P, U, row3, B3, G3⟩
  obtain ⟨s, hs1, hs2⟩ := perm_map LsaD.x P wt WX.out
  subst hs2
  have HP := Lib.hid hs1
  have HU := Lib.hid U
  have SN : Hid (s.length = nv) := Lib.hid (by rw [hs1.length_eq, NV.out])
  have B13 := Lib.hid (B12.out.trans (B3.mono S12.out))
  have X3 := Lib.hid ((B3.block _ RBL.out).trans X2.out)
  obtain ⟨W4, hW4⟩ : ∃ W4, w3.alloc (.map #[] 0) = W4 := ⟨_, rfl⟩
  have B4 : Below w3.heap.size w3 W4 := by rw [← hW4]; exact (Below.refl _ _).alloc (Nat.le_refl _) _
  have M4 : LMap W4 w3.heap.size 0 (kF s 0) := by rw [← hW4, kF_zero]; exact MapF.made w3
  have HM4 := Lib.hid M4
  have HB4 := Lib.hid B4
  have RS3 := Lib.hid (LsaRow.at row3)
  have NVB : Hid (nv ≤ 1048576) := Lib.hid (by rw [← NV.out]; exact HWN.out)
  have MEM := Lib.hid (fun (d : LsaD) (h : d ∈ s) => HP.out.mem_iff.1 h)
  have HW4 := Lib.hid hW4
  clear hs1 U P row3 B3 G3 SO2 hW4 B4 M4 X2 B12
  go_wp2_with fail
  rw [HW4.out]
  clear HW4
  rename_i K hK
  refine pl_loop1 _ w3 W4 w3.heap.size rfl s a nv c SN.out NVB.out RS3.out (fun d hd => HWK.out d (MEM.out d hd)) HM4.out HB4.out _ _ _ _ _ _ _ _ _ _ _ _ _ _ _ _ _ _ _ _ _ _ _ _ _ _ _ _ _ _ _ _ _ _ _ _ _ _ _ _ _ _ _ _ _ _ _ _ _ _ _ _ _ _ _ _ _ _ _ _ _ _ _ _ _ _ _ _ _ _ _ _ _ _ _ _ _ _ _ _ _ _ _ _ _ _ _ _ _ _ _ ?hq1 ?hr1
  case hr1 =>
    intro v11 v30 v31 v32 v33 v34 v35 v36 v37 v38 v39 v40 v41 v42 v43 w5 ND B5
    have FI : Hid (PlanPost w db rt wt (.returned (.tuple #[.slice none 0 0, .int .i64 7])) w5) := Lib.hid ⟨7, [], _, [], .inr (.inl ⟨RTA.out, fun h => ND ((HP.out.map keyD).nodup_iff.2 h), rfl, rfl⟩), rfl, ⟨⟨none, 0, rfl, Nat.le_refl _, by unfold maxLen; omega, fun _ => rfl, fun h => absurd h (by simp)⟩, fun d h => by cases h⟩, rfl, B13.out.trans (B5.mono B13.out.size)⟩
    exact bodyPost_ret (v := .tuple #[.slice none 0 0, .int .i64 7]) (by simp [results, Tryz.results22, go_sem]) rfl FI.out
  case hq1 =>
    intro v6 v7 v11 v30 v31 v32 v33 v34 v35 v36 v37 v38 v39 v40 v41 v42 v43 w5 M5 B5 ND
    have HM5 := Lib.hid M5
    have HND := Lib.hid ND
    have B15 := Lib.hid (B13.out.trans (B5.mono B13.out.size))
    have RS5 := Lib.hid (RS3.out.below B5)
    have X5 := Lib.hid ((B5.block _ (blk_lt X3.out)).trans X3.out)
    clear M5 ND B5 HM4 HB4 RS3 X3
    refine hK _ _ ?_
    clear hK
    go_wp2_with fail
    rename_i K2 hK2
    refine pl_loop2 _ w5 _ db s (HD.out.below B15.out) a nv c SN.out NVB.out RS5.out (fun d hd => (HWT.out d (MEM.out d hd)).below B15.out) (fun d hd => HWL.out d (MEM.out d hd)) _ _ _ _ _ _ _ _ _ _ _ _ _ _ _ _ _ _ _ _ _ _ _ _ _ _ _ _ _ _ _ _ _ _ _ _ _ _ _ _ _ _ _ _ _ _ _ _ _ _ _ _ _ _ _ _ _ _ _ _ _ _ _ _ _ _ _ _ _ _ _ _ _ _ _ _ _ _ _ _ _ _ _ _ _ _ _ _ _ _ ?hq2 ?hr2
    case hr2 =>
      intro v12 v14 v15 v16 v17 v46 v47 v48 v49 v50 v51 v52 v53 v54 v55 v56 v57 v58 v59 v60 v61 v62 v63 v64 v65 w6 i hi hall hne B6
      have FI : Hid (PlanPost w db rt wt (.returned (.tuple #[.slice none 0 0, .int .i64 (nx db s[i]).c])) w6) := Lib.hid ⟨(nx db s[i]).c, [], _, [], .inr (.inr ⟨RTA.out, (HP.out.map keyD).nodup_iff.1 HND.out, s, HP.out, asc_sorted HU.out HND.out, .inl ⟨i, hi, hall, rfl, hne, rfl⟩⟩), rfl, ⟨⟨none, 0, rfl, Nat.le_refl _, by unfold maxLen; omega, fun _ => rfl, fun h => absurd h (by simp)⟩, fun d h => by cases h⟩, rfl, B15.out.trans (B6.mono B15.out.size)⟩
      exact bodyPost_ret (v := .tuple #[.slice none 0 0, .int .i64 (nx db s[i]).c]) (by simp [results, Tryz.results22, go_sem]) rfl FI.out
    case hq2 =>
      intro v6 v7 v12 v14 v15 v16 v17 v46 v47 v48 v49 v50 v51 v52 v53 v54 v55 v56 v57 v58 v59 v60 v61 v62 v63 v64 v65 out w6 R6
      have HR6 := Lib.hid R6
      have B16 := Lib.hid (B15.out.trans (R6.bel.mono B15.out.size))
      have X6 := Lib.hid ((R6.bel.block _ (blk_lt X5.out)).trans X5.out)
      have FM6 := Lib.hid (FM.out w6 B16.out)
      have M6 := Lib.hid (HM5.out.grow R6.bel)
      have MBL := Lib.hid HM5.out.lt
      have S56 := Lib.hid R6.bel.size
      have x0 : w6.cell? ⟨w.heap.size, 0, none⟩ = some (.int .u32 rt) := blk_cell X6.out rfl
      clear R6 HM5 X5 RS5 FM
      refine hK2 _ _ ?_
      clear hK2
      go_wp2_with fail
      refine FM6.out.mono ?_
      rintro e w7 ⟨g, own, rfl, DR, EQ, hg, FD, B7⟩
      have B17 := Lib.hid (B16.out.trans (B7.mono B16.out.size))
      have OWNM : ∀ d ∈ own, ∃ d' ∈ db, nrm d' = nrm d := by
        intro d hd
        have h : nrm d ∈ (db.filter (ownD rt)).map nrm := by rw [← EQ]; exact List.mem_map_of_mem hd
        obtain ⟨d', h1, h2⟩ := List.mem_map.1 h
        exact ⟨d', (List.mem_filter.1 h1).1, h2⟩
      have OWL : own.length ≤ 1048576 := by
        have h := congrArg List.length EQ
        rw [List.length_map, List.length_map] at h
        have h2 := List.length_filter_le (ownD rt) db
        have h3 := HDN.out
        omega
      have OUL : out.length ≤ 1048576 := by have h1 := HR6.out.len; have h2 := NVB.out; omega
      have OR7 := HR6.out.row.grow B7
      have M7 := M6.out.grow B7
      have L3 := Lib.hid (fun Q => pl_loop3 Q w7 w5.heap.size w3.heap.size nv v12 out own (kF s nv) OR7 (Nat.le_trans S56.out B7.size) M7 MBL.out (fun k => kF_two s nv k) g own.length db.length DR rfl OWL OUL (fun b hb => Nat.lt_of_lt_of_le (World.ownsRow.lt HR6.out.row.row b hb).2 hg) FD
        (fun d hd => by
          obtain ⟨d', h1, h2⟩ := OWNM d hd
          have e1 : d'.lk = d.lk := nrm_f LsaD.lk (fun _ => rfl) h2
          have e2 : d'.att = d.att := nrm_f LsaD.att (fun _ => rfl) h2
          rw [← e1, ← e2]; exact HD.out.len d' h1)
        (fun d hd => by
          obtain ⟨d', h1, h2⟩ := OWNM d hd
          have e1 : keyD d' = keyD d := nrm_f (fun z : LsaD => keyD z) (fun _ => rfl) h2
          rw [← e1]; exact HDK.out d' h1))
      have GL := Lib.hid (fun j (hj : v12.ownBlock = some j) => (World.ownsRow.lt HR6.out.row.row j hj).1)
      have HEQ := Lib.hid EQ
      have HOL := Lib.hid OWL
      have HOU := Lib.hid OUL
      have S57 := Lib.hid (Nat.le_trans S56.out B7.size)
      clear DR EQ hg FD B7 OWNM OWL OUL OR7 M7 M6 x0 X6 FM6 B16
      go_wp2_with fail
      rename_i K3 hK3
      refine L3.out _ _ _ _ _ _ _ _ _ _ _ _ _ _ _ _ _ _ _ _ _ _ _ _ _ _ _ _ _ _ _ _ _ _ _ _ _ _ _ _ _ _ _ _ _ _ _ _ _ _ _ _ _ _ _ _ _ _ _ _ _ _ _ _ _ _ _ _ _ _ _ _ _ _ _ _ _ _ _ _ _ _ _ _ _ _ _ _ _ _ _ ?hq3
      case hq3 =>
        intro v12' v19 v70 v71 v72 v73 v74 v75 v76 v77 v78 v79 v80 v81 v82 v83 v84 v85 v86 v87 v88 v89 v90 v91 out3 w8 R8
        have HR8 := Lib.hid R8
        have B18 := Lib.hid (B17.out.grown R8.gr B17.out.size (fun j hj => by have h1 := GL.out j hj; have h2 := B15.out.size; omega))
        have SO8 := Lib.hid (SO.out w5.heap.size w8 v12' (out3.map LsaD.x) R8.row.row (by rw [List.length_map]; have h1 := R8.len; have h2 := HOL.out; have h3 := HOU.out; omega))
        clear R8 L3
        refine hK3 _ _ ?_
        clear hK3
        go_wp2_with fail
        refine SO8.out.mono ?_
        rintro e w9 ⟨rfl, l', P', U', row9, B9, G9⟩
        obtain ⟨xs, hx1, hx2⟩ := perm_map LsaD.x P' out3 rfl
        subst hx2
        have FI : Hid (PlanPost w db rt wt (.returned (.tuple #[v12', .int .i64 0])) w9) := Lib.hid ⟨0, xs.map nrm, v12', xs, plan_fin HD.out.ok.nd HP.out (asc_sorted HU.out HND.out) HND.out RTA.out (fun d hd => by
            obtain ⟨j, hj, rfl⟩ := List.getElem_of_mem hd
            exact HR6.out.ok j hj (by rw [← SN.out]; exact hj)) HEQ.out (by
            have h1 := HR8.out.eq
            have h2 := HR6.out.eq
            rw [List.take_length] at h1
            rw [List.take_of_length_le (by rw [SN.out]; exact Nat.le_refl _)] at h2
            rw [h1, h2, SN.out]) hx1 U', rfl, (HR8.out.row.sorted row9 hx1 G9).drow, rfl, B18.out.trans (B9.mono B15.out.size)⟩
        clear P' U' row9 B9 G9 hx1 SO8
        go_wp2_with fail
        exact bodyPost_ret (v := .tuple #[v12', .int .i64 0]) (by simp [results, Tryz.results22, go_sem]) rfl FI.out

end Go.Proofs.YtddageahmgaigaaGreat
