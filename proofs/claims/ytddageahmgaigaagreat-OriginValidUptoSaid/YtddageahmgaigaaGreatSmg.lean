import Derived.Test.YtddageahmgaigaaGreatSel
import Derived.Test.YtddageahmgaigaaGreatBon
namespace Go.Proofs.YtddageahmgaigaaGreat
open Go.RowKit

set_option maxHeartbeats 4000000 in
set_option maxRecDepth 100000 in
theorem bytes_gen (x : Lsa) (ok : OkL x) (oh : OkH x) (bb : List Int) (BL : bb.length ≤ 1000) (w : World) (bc : ∀ W, Below w.heap.size w W → Calls Tryz.prog 140 #[.agg (lsaE x).toArray] W (PutPost W.heap.size W bb)) : Calls Tryz.prog 101 #[.agg (lsaE x).toArray] w (PutPost w.heap.size w (hdrB x ++ putB 2 (bb.length : Nat) ++ bb)) := by
  obtain ⟨i0', hi0, hz0, hz1, hz2⟩ := info_parts Tryz.infoU8
  have HI0 := Lib.hid hi0
  have HZ0 := Lib.hid hz0
  have HZ1 := Lib.hid hz1
  have HZ2 := Lib.hid hz2
  clear hi0 hz0 hz1 hz2
  have BC := Lib.hid bc
  clear bc
  have HC := Lib.hid (fun W => header_calls x ok oh W)
  have HLN := hdrB_len x
  clear ok oh
  generalize hdrB x = hh at *
  have HLNh := Lib.hid HLN
  clear HLN
  obtain ⟨typ, id, len, router, seq, age, sum, border, boundary, la, ln, lc, aa, an, ac, cost, second, fwd, tag⟩ := x
  simp only [lsaE, hdE] at *
  obtain ⟨W, hW⟩ : ∃ W, w.alloc (.cells #[.int .i64 typ, .int .u32 id, .int .i64 len, .int .u32 router, .int .i64 seq, .int .i64 age, .int .i64 sum, .bool border, .bool boundary, .slice la ln lc, .slice aa an ac, .int .i64 cost, .bool second, .int .u32 fwd, .int .i64 tag] 42) = W := ⟨_, rfl⟩
  have hs : W.heap.size = w.heap.size + 1 := by rw [← hW]; simp
  have B0 : Below w.heap.size w W := by rw [← hW]; exact (Below.refl _ _).alloc (Nat.le_refl _) _
  have bx : W.heap[w.heap.size]? = some (.cells #[.int .i64 typ, .int .u32 id, .int .i64 len, .int .u32 router, .int .i64 seq, .int .i64 age, .int .i64 sum, .bool border, .bool boundary, .slice la ln lc, .slice aa an ac, .int .i64 cost, .bool second, .int .u32 fwd, .int .i64 tag] 42 (0, 0)) := by rw [← hW]; exact alloc_new _ _
  have HW := Lib.hid hW
  have HB0 := Lib.hid B0
  have HBX := Lib.hid bx
  have HS := Lib.hid hs
  clear hW B0 bx hs
  go_enter Tryz.func101, Tryz.ntmps101
  go_wp2_with fail
  rw [HW.out]
  refine (BC.out W HB0.out).mono ?_
  rintro e w1 ⟨v1, rfl, O1, B1⟩
  have b1 := (B1.block w.heap.size (by have := HS.out; omega)).trans HBX.out
  obtain ⟨⟨⟨e0, e1, e2, e3, e4⟩, ⟨e5, e6, e7, e8, e9⟩, ⟨e10, e11, e12, e13, e14⟩⟩, -⟩ := blk15 b1
  obtain ⟨a1, c1, ev, k1, k2, -⟩ := O1.at.get
  subst ev
  have HO1 := Lib.hid O1
  have HB1 := Lib.hid B1
  clear O1 B1 BC b1 k1 k2
  go_wp2_with fail
  refine (HC.out _).mono ?_
  rintro e w2 ⟨v2, rfl, O2, B2⟩
  have C2 := Lib.hid (put_calls w1.heap.size w2 v2 hh 2 (bb.length : Nat) O2 B2.size (by omega) (by omega) (by omega) (by have := HLNh.out; omega))
  have HB2 := Lib.hid B2
  clear O2 B2 HC e0 e1 e2 e3 e4 e5 e6 e7 e8 e9 e10 e11 e12 e13 e14
  go_wp2_with fail
  refine C2.out.mono ?_
  rintro e w3 ⟨v3, rfl, O3, B3⟩
  have HB3 := Lib.hid (HB2.out.trans B3)
  have HO3 := Lib.hid O3
  have SB : Hid (SlV 1 w3 (.slice a1 bb.length c1) (bb.map byE)) := Lib.hid ((HO1.out.at).below HB3.out)
  have K1 : Hid ((hh ++ putB 2 (bb.length : Nat)).length + (bb.map byE).length ≤ maxLen) := Lib.hid (by have := HLNh.out; simp [putB_len]; unfold maxLen; omega)
  have K2 : Hid (((hh ++ putB 2 (bb.length : Nat)).length + (bb.map byE).length) * 1 ≤ 140737488355328) := Lib.hid (by have := HLNh.out; simp [putB_len]; omega)
  have FIN : Hid (∀ v4 w4, w4.ownsRow w1.heap.size 5 1 v4 ((hh ++ putB 2 (bb.length : Nat)).length + (bb.map byE).length) (((hh ++ putB 2 (bb.length : Nat)).map byE).flatten ++ (bb.map byE).flatten) → w3.grownBy w4 v3.ownBlock → PutPost w.heap.size w (hh ++ putB 2 (bb.length : Nat) ++ bb) (.returned v4) w4) := Lib.hid (by
    intro v4 w4 O4 G4
    have hB4 : Below w1.heap.size w1 w4 := HB3.out.grown G4 HB3.out.size (fun j hj => (HO3.out.lt j hj).1)
    have h1 := HB1.out.size
    have h0 := HS.out
    refine ⟨v4, rfl, ?_, HB0.out.trans ((HB1.out.trans (hB4.mono h1)).mono (by omega))⟩
    refine own_base (base := w1.heap.size) ?_ (by omega)
    unfold BytesOwn
    have e1 : (hh ++ putB 2 (bb.length : Nat) ++ bb).length = (hh ++ putB 2 (bb.length : Nat)).length + (bb.map byE).length := by simp; omega
    have e2 : ((hh ++ putB 2 (bb.length : Nat) ++ bb).map byE).flatten = ((hh ++ putB 2 (bb.length : Nat)).map byE).flatten ++ (bb.map byE).flatten := by simp
    rw [e1, e2]; exact O4)
  clear O3 B3 C2 HB2
  go_wp2_with (at_builtin; refine wpList_append_sl rfl _ _ _ rfl w1.heap.size 5 i0' _ 1 1 Tryz.underlying134 HI0.out HZ0.out HZ1.out HZ2.out rfl (by decide) _ (hh ++ putB 2 (bb.length : Nat)).length _ rfl HO3.out _ (bb.map byE) rfl SB.out (byE_len bb) (byE_one bb) K1.out K2.out HB3.out.size ?_; intro v4 w4 O4 G4; have PO := Lib.hid (FIN.out v4 w4 O4 G4); clear O4 G4)
  go_ret
  exact PO.out

end Go.Proofs.YtddageahmgaigaaGreat

namespace Go.Proofs.YtddageahmgaigaaGreat
open Go.RowKit

def SldPost (w : World) (e : Ending) (w' : World) : Prop := ∃ b : Bool, e = .returned (.bool b) ∧ Below w.heap.size w w'

end Go.Proofs.YtddageahmgaigaaGreat
