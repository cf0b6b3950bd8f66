/-
  routingref23: Bytes and Sum over whatever body.
-/
/-
  routingref23.Sealed: some truth is returned.
-/
import Derived.Test.YtogdconliofblaaGreatSel
import Derived.Test.YtogdconliofblaaGreatBon
namespace Go.Proofs.YtogdconliofblaaGreat
open Go.RowKit

set_option maxHeartbeats 4000000 in
set_option maxRecDepth 100000 in
theorem bytes_gen (x : Lsa) (ok : OkL x) (oh : OkH x) (bb : List Int) (BL : bb.length ≤ 1000) (w : World) (bc : ∀ W, Below w.heap.size w W → Calls Tryz.prog 177 #[.agg (lsaE x).toArray] W (PutPost W.heap.size W bb)) : Calls Tryz.prog 143 #[.agg (lsaE x).toArray] w (PutPost w.heap.size w (hdrB x ++ putB 2 (bb.length : Nat) ++ bb)) := by
  obtain ⟨i0', hi0, hz0, hz1, hz2⟩ := info_parts Tryz.infoU8
  have HI0 := Lib.hid hi0
  have HZ0 := Lib.hid hz0
  have HZ1 := Lib.hid hz1
  have HZ2 := Lib.hid hz2
  clear hi0 hz0 hz1 hz2
  have BC := Lib.hid bc
  clear bc
  have HC := Lib.hid (fun W => header_calls x ok oh W)
  have HLN := hdrB_len x
  clear ok oh
  generalize hdrB x = hh at *
  have HLNh := Lib.hid HLN
  clear HLN
  obtain ⟨typ, id, len, router, seq, age, sum, border, boundary, la, ln, lc, aa, an, ac, cost, second, fwd, tag⟩ := x
  simp only [lsaE, hdE] at *
  obtain ⟨W, hW⟩ : ∃ W, w.alloc (.cells #[.int .i64 typ, .int .u32 id, .int .i64 len, .int .u32 router, .int .i64 seq, .int .i64 age, .int .i64 sum, .bool border, .bool boundary, .slice la ln lc, .slice aa an ac, .int .i64 cost, .bool second, .int .u32 fwd, .int .i64 tag] 47) = W := ⟨_, rfl⟩
  have hs : W.heap.size = w.heap.size + 1 := by rw [← hW]; simp
  have B0 : Below w.heap.size w W := by rw [← hW]; exact (Below.refl _ _).alloc (Nat.le_refl _) _
  have bx : W.heap[w.heap.size]? = some (.cells #[.int .i64 typ, .int .u32 id, .int .i64 len, .int .u32 router, .int .i64 seq, .int .i64 age, .int .i64 sum, .bool border, .bool boundary, .slice la ln lc, .slice aa an ac, .int .i64 cost, .bool second, .int .u32 fwd, .int .i64 tag] 47 (0, 0)) := by rw [← hW]; exact alloc_new _ _
  have HW := Lib.hid hW
  have HB0 := Lib.hid B0
  have HBX := Lib.hid bx
  have HS := Lib.hid hs
  clear hW B0 bx hs
  go_enter Tryz.func143, Tryz.ntmps143
  go_wp2_with fail
  rw [HW.out]
  refine (BC.out W HB0.out).mono ?_
  rintro e w1 ⟨v1, rfl, O1, B1⟩
  have b1 := (B1.block w.heap.size (by have := HS.out; omega)).trans HBX.out
  obtain ⟨⟨⟨e0, e1, e2, e3, e4⟩, ⟨e5, e6, e7, e8, e9⟩, ⟨e10, e11, e12, e13, e14⟩⟩, -⟩ := blk15 b1
  obtain ⟨a1, c1, ev, k1, k2, -⟩ := O1.at.get
  subst ev
  have HO1 := Lib.hid O1
  have HB1 := Lib.hid B1
  clear O1 B1 BC b1 k1 k2
  go_wp2_with fail
  refine (HC.out _).mono ?_
  rintro e w2 ⟨v2, rfl, O2, B2⟩
  have C2 := Lib.hid (put_calls w1.heap.size w2 v2 hh 2 (bb.length : Nat) O2 B2.size (by omega) (by omega) (by omega) (by have := HLNh.out; omega))
  have HB2 := Lib.hid B2
  clear O2 B2 HC e0 e1 e2 e3 e4 e5 e6 e7 e8 e9 e10 e11 e12 e13 e14
  go_wp2_with fail
  refine C2.out.mono ?_
  rintro e w3 ⟨v3, rfl, O3, B3⟩
  have HB3 := Lib.hid (HB2.out.trans B3)
  have HO3 := Lib.hid O3
  have SB : Hid (SlV 1 w3 (.slice a1 bb.length c1) (bb.map byE)) := Lib.hid ((HO1.out.at).below HB3.out)
  have K1 : Hid ((hh ++ putB 2 (bb.length : Nat)).length + (bb.map byE).length ≤ maxLen) := Lib.hid (by have := HLNh.out; simp [putB_len]; unfold maxLen; omega)
  have K2 : Hid (((hh ++ putB 2 (bb.length : Nat)).length + (bb.map byE).length) * 1 ≤ 140737488355328) := Lib.hid (by have := HLNh.out; simp [putB_len]; omega)
  have FIN : Hid (∀ v4 w4, w4.ownsRow w1.heap.size 5 1 v4 ((hh ++ putB 2 (bb.length : Nat)).length + (bb.map byE).length) (((hh ++ putB 2 (bb.length : Nat)).map byE).flatten ++ (bb.map byE).flatten) → w3.grownBy w4 v3.ownBlock → PutPost w.heap.size w (hh ++ putB 2 (bb.length : Nat) ++ bb) (.returned v4) w4) := Lib.hid (by
    intro v4 w4 O4 G4
    have hB4 : Below w1.heap.size w1 w4 := HB3.out.grown G4 HB3.out.size (fun j hj => (HO3.out.lt j hj).1)
    have h1 := HB1.out.size
    have h0 := HS.out
    refine ⟨v4, rfl, ?_, HB0.out.trans ((HB1.out.trans (hB4.mono h1)).mono (by omega))⟩
    refine own_base (base := w1.heap.size) ?_ (by omega)
    unfold BytesOwn
    have e1 : (hh ++ putB 2 (bb.length : Nat) ++ bb).length = (hh ++ putB 2 (bb.length : Nat)).length + (bb.map byE).length := by simp; omega
    have e2 : ((hh ++ putB 2 (bb.length : Nat) ++ bb).map byE).flatten = ((hh ++ putB 2 (bb.length : Nat)).map byE).flatten ++ (bb.map byE).flatten := by simp
    rw [e1, e2]; exact O4)
  clear O3 B3 C2 HB2
  go_wp2_with (at_builtin; refine wpList_append_sl rfl _ _ _ rfl w1.heap.size 5 i0' _ 1 1 Tryz.underlying193 HI0.out HZ0.out HZ1.out HZ2.out rfl (by decide) _ (hh ++ putB 2 (bb.length : Nat)).length _ rfl HO3.out _ (bb.map byE) rfl SB.out (byE_len bb) (byE_one bb) K1.out K2.out HB3.out.size ?_; intro v4 w4 O4 G4; have PO := Lib.hid (FIN.out v4 w4 O4 G4); clear O4 G4)
  go_ret
  exact PO.out

set_option maxHeartbeats 2000000 in
set_option maxRecDepth 100000 in
theorem sum_gen (x : Lsa) (ok : OkL x) (oh : OkH x) (bb : List Int) (BL0 : bb.length ≤ 1000) (hr : ∀ b ∈ bb, 0 ≤ b ∧ b < 256) (w : World) (bc : ∀ W, Below w.heap.size w W → Calls Tryz.prog 177 #[.agg (lsaE x).toArray] W (PutPost W.heap.size W bb)) : Calls Tryz.prog 101 #[.agg (lsaE x).toArray] w (SumPost w) := by
  have BC := Lib.hid (fun W (hb : Below w.heap.size w W) => bytes_gen x ok oh bb BL0 W fun W' hb' => bc W' (hb.trans (hb'.mono hb.size)))
  have BR : Hid (∀ b ∈ hdrB x ++ putB 2 (bb.length : Nat) ++ bb, 0 ≤ b ∧ b < 256) := Lib.hid (by
    unfold hdrB
    simp only [List.forall_mem_append]
    exact ⟨⟨⟨⟨⟨⟨⟨⟨putB_range _ _, putB_range _ _⟩, putB_range _ _⟩, putB_range _ _⟩, putB_range _ _⟩, putB_range _ _⟩, putB_range _ _⟩, putB_range _ _⟩, hr⟩)
  have BL : 20 ≤ (hdrB x ++ putB 2 (bb.length : Nat) ++ bb).length ∧ (hdrB x ++ putB 2 (bb.length : Nat) ++ bb).length ≤ 1020 := by simp only [List.length_append, hdrB_len, putB_len]; omega
  clear ok oh bc hr BL0
  generalize hdrB x ++ putB 2 (bb.length : Nat) ++ bb = l at *
  obtain ⟨typ, id, len, router, seq, age, sum, border, boundary, la, ln, lc, aa, an, ac, cost, second, fwd, tag⟩ := x
  simp only [lsaE] at *
  go_enter Tryz.func101, Tryz.ntmps101
  go_wp2_with fail
  refine (BC.out _ ((Below.refl _ _).alloc (Nat.le_refl _) _)).mono ?_
  rintro e w1 ⟨v1, rfl, O1, B1⟩
  obtain ⟨g, cp, ev, g0, g1, g2, g3⟩ := own_shape O1 (by omega)
  subst ev
  have FC := Lib.hid (fletcher_calls w1 _ (l.drop 2) (O1.at.drop2 (by omega)) (fun b hb => BR.out b (List.mem_of_mem_drop hb)) (by simp; omega) (by simp; omega))
  have HB : Hid (Below w.heap.size w w1) := Lib.hid (((Below.refl _ _).alloc (Nat.le_refl _) _).trans (B1.mono (by simp)))
  have g3' : cp ≤ 9223372036854775807 := by unfold maxLen at g3; omega
  obtain ⟨b0, b1⟩ := BL
  clear O1 B1 BC BR g0 g1 g3
  generalize l.length = n at *
  go_wp2_with fail
  refine FC.out.mono ?_
  rintro e w2 ⟨r, b, rfl, B2⟩
  have FIN := Lib.hid (HB.out.trans (B2.mono HB.out.size))
  clear B2 FC HB
  go_wp2_with fail
  go_ret
  exact ⟨r, rfl, FIN.out⟩

end Go.Proofs.YtogdconliofblaaGreat

namespace Go.Proofs.YtogdconliofblaaGreat
open Go.RowKit

def SldPost (w : World) (e : Ending) (w' : World) : Prop := ∃ b : Bool, e = .returned (.bool b) ∧ Below w.heap.size w w'

set_option maxHeartbeats 4000000 in
set_option maxRecDepth 100000 in
theorem sealed_gen (x : Lsa) (w : World) (sc : ∀ W, Below w.heap.size w W → Calls Tryz.prog 101 #[.agg (lsaE x).toArray] W (SumPost W)) : Calls Tryz.prog 82 #[.agg (lsaE x).toArray] w (SldPost w) := by
  have SC := Lib.hid sc
  clear sc
  obtain ⟨typ, id, len, router, seq, age, sum, border, boundary, la, ln, lc, aa, an, ac, cost, second, fwd, tag⟩ := x
  simp only [lsaE] at *
  obtain ⟨W, hW⟩ : ∃ W, w.alloc (.cells #[.int .i64 typ, .int .u32 id, .int .i64 len, .int .u32 router, .int .i64 seq, .int .i64 age, .int .i64 sum, .bool border, .bool boundary, .slice la ln lc, .slice aa an ac, .int .i64 cost, .bool second, .int .u32 fwd, .int .i64 tag] 47) = W := ⟨_, rfl⟩
  have B0 : Below w.heap.size w W := by rw [← hW]; exact (Below.refl _ _).alloc (Nat.le_refl _) _
  have bx : W.heap[w.heap.size]? = some (.cells #[.int .i64 typ, .int .u32 id, .int .i64 len, .int .u32 router, .int .i64 seq, .int .i64 age, .int .i64 sum, .bool border, .bool boundary, .slice la ln lc, .slice aa an ac, .int .i64 cost, .bool second, .int .u32 fwd, .int .i64 tag] 47 (0, 0)) := by rw [← hW]; exact alloc_new _ _
  obtain ⟨⟨⟨e0, e1, e2, e3, e4⟩, ⟨e5, e6, e7, e8, e9⟩, ⟨e10, e11, e12, e13, e14⟩⟩, -⟩ := blk15 bx
  have HB0 := Lib.hid B0
  have HBX := Lib.hid bx
  have HW := Lib.hid hW
  have SW := Lib.hid (SC.out W.drew B0.drew)
  clear hW B0 bx SC
  go_enter Tryz.func82, Tryz.ntmps82
  go_wp2_with fail
  rw [HW.out]
  go_region_held3 (fun W' => W'.cell? ⟨w.heap.size, 0, none⟩ = some (.int .i64 typ) ∧ W'.cell? ⟨w.heap.size, 1, none⟩ = some (.int .u32 id) ∧ W'.cell? ⟨w.heap.size, 2, none⟩ = some (.int .i64 len) ∧ W'.cell? ⟨w.heap.size, 3, none⟩ = some (.int .u32 router) ∧ W'.cell? ⟨w.heap.size, 4, none⟩ = some (.int .i64 seq) ∧ W'.cell? ⟨w.heap.size, 5, none⟩ = some (.int .i64 age) ∧ W'.cell? ⟨w.heap.size, 6, none⟩ = some (.int .i64 sum) ∧ W'.cell? ⟨w.heap.size, 7, none⟩ = some (.bool border) ∧ W'.cell? ⟨w.heap.size, 8, none⟩ = some (.bool boundary) ∧ W'.cell? ⟨w.heap.size, 9, none⟩ = some (.slice la ln lc) ∧ W'.cell? ⟨w.heap.size, 10, none⟩ = some (.slice aa an ac) ∧ W'.cell? ⟨w.heap.size, 11, none⟩ = some (.int .i64 cost) ∧ W'.cell? ⟨w.heap.size, 12, none⟩ = some (.bool second) ∧ W'.cell? ⟨w.heap.size, 13, none⟩ = some (.int .u32 fwd) ∧ W'.cell? ⟨w.heap.size, 14, none⟩ = some (.int .i64 tag))
    (first | with_reducible exact ⟨k0, k1, k2, k3, k4, k5, k6, k7, k8, k9, k10, k11, k12, k13, k14⟩ | with_reducible exact ⟨e0, e1, e2, e3, e4, e5, e6, e7, e8, e9, e10, e11, e12, e13, e14⟩ | go_keep)
    (first
    | (go_at_call 101; ((with_reducible refine SW.out.mono ?_)); rintro e w1 ⟨n, rfl, B1⟩; obtain ⟨⟨⟨k0, k1, k2, k3, k4⟩, ⟨k5, k6, k7, k8, k9⟩, ⟨k10, k11, k12, k13, k14⟩⟩, -⟩ := blk15 ((B1.block w.heap.size (blk_lt HBX.out)).trans HBX.out); have FIN := Lib.hid (HB0.out.drew.trans (B1.mono HB0.out.size)); clear B1))
  go_wp2_with fail
  go_ret
  exact ⟨_, rfl, FIN.out⟩

end Go.Proofs.YtogdconliofblaaGreat
