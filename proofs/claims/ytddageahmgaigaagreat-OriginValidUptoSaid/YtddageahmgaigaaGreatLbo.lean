import Derived.Test.YtddageahmgaigaaGreatLhd
import Derived.Test.YtddageahmgaigaaGreatFle
import Derived.Test.YtddageahmgaigaaGreatSla
import Derived.Deep.DeepCutAuto
namespace Go.Proofs.YtddageahmgaigaaGreat
open Go.RowKit

def BodyPost (w : World) (l : List Int) (e : Ending) (w' : World) : Prop := ∃ v, e = .returned v ∧ BytesAt w' v l ∧ Below w.heap.size w w'
theorem or_flags (a b : Bool) : bits .or .u64 (if a = true then 1 else 0) (if b = true then 2 else 0) = flagsP a b := by cases a <;> cases b <;> rfl

set_option maxHeartbeats 8000000 in
set_option maxRecDepth 100000 in
theorem lbody_ext (x : Lsa) (ok : OkL x) (oh : OkH x) (ht : x.typ = 5) (w : World) : Calls Tryz.prog 159 #[.agg (lsaE x).toArray] w (BodyPost w (bodyB x)) := by
  obtain ⟨i0, i1, r0, r1, f0, f1⟩ := ok
  obtain ⟨-, -, l0, l1, s0, s1, a0, a1, u0, u1, k0, k1, g0, g1⟩ := oh
  unfold bodyB
  obtain ⟨typ, id, len, router, seq, age, sum, border, boundary, la, ln, lc, aa, an, ac, cost, second, fwd, tag⟩ := x
  simp only [lsaE] at *
  subst ht
  simp only [if_true]
  obtain ⟨W, hW⟩ : ∃ W, (w.alloc (.cells #[.int .i64 5, .int .u32 id, .int .i64 len, .int .u32 router, .int .i64 seq, .int .i64 age, .int .i64 sum, .bool border, .bool boundary, .slice la ln lc, .slice aa an ac, .int .i64 cost, .bool second, .int .u32 fwd, .int .i64 tag] 42)).alloc (.cells #[.slice none 0 0] 134) = W := ⟨_, rfl⟩
  have B0 : Below w.heap.size w W := by rw [← hW]; exact ((Below.refl _ _).alloc (Nat.le_refl _) _).alloc (by simp) _
  have bx : W.heap[w.heap.size]? = some (.cells #[.int .i64 5, .int .u32 id, .int .i64 len, .int .u32 router, .int .i64 seq, .int .i64 age, .int .i64 sum, .bool border, .bool boundary, .slice la ln lc, .slice aa an ac, .int .i64 cost, .bool second, .int .u32 fwd, .int .i64 tag] 42 (0, 0)) := by rw [← hW]; exact (alloc_get _ _ _ (by simp)).trans (alloc_new _ _)
  have by' : W.heap[w.heap.size + 1]? = some (.cells #[.slice none 0 0] 134 (0, 0)) := by rw [← hW]; exact blk_new2 _ _ _
  have P0 : Hid (PutBox (w.heap.size + 1) W (.slice none 0 0) []) := Lib.hid ⟨by', ⟨none, 0, rfl, by simp, by simp, fun _ => rfl, fun h => by simp at h⟩⟩
  have HW := Lib.hid hW
  have K0 := Lib.hid B0
  have X0 := Lib.hid bx
  have z0 : W.cell? ⟨w.heap.size, 0, none⟩ = some (.int .i64 5) := blk_cell bx rfl

  have FL : Hid (∀ W, Calls Tryz.prog 176 #[.bool second, .int .u64 1] W fun e w' => e = .returned (.int .u64 (flagsP second false)) ∧ W = w') := Lib.hid (fun W => by
    have h := flag_calls second 1 W
    rwa [show (if second = true then (1 : Int) else 0) = flagsP second false from by cases second <;> rfl] at h)
  obtain ⟨hf0, hf1⟩ : 0 ≤ flagsP second false ∧ flagsP second false < 18446744073709551616 := by cases second <;> decide
  obtain ⟨fl, hfl⟩ : ∃ fl, fl = flagsP second false := ⟨_, rfl⟩
  rw [← hfl] at FL hf0 hf1 ⊢
  clear hfl
  have z6 : W.cell? ⟨w.heap.size, 12, none⟩ = some (.bool second) := blk_cell bx rfl
  clear hW B0 bx by'
  go_enter Tryz.func159, Tryz.ntmps159
  go_upto_region 26 with fail
  rw [HW.out]
  go_wp2_with fail
  refine (FL.out _).mono ?_
  rintro e w0 ⟨rfl, rfl⟩
  go_wp2_with fail
  have C0 := Lib.hid (bput_calls W (w.heap.size + 1) (.slice none 0 0) (([] : List Int)) 1 fl P0.out (by omega) (by omega) (by omega) (by simp))
  refine C0.out.mono ?_
  rintro e w1 ⟨rfl, ⟨v1, Q1⟩, G1⟩
  have P1 := Lib.hid Q1
  have K1 := Lib.hid (below_box K0.out K0.out.size G1 (Nat.le_succ _))
  have X1 := Lib.hid ((G1.block _ (blk_lt X0.out) (by simp)).trans X0.out)
  have c1_0 : w1.cell? ⟨w.heap.size, 11, none⟩ = some (.int .i64 cost) := blk_cell X1.out rfl
  have C1 := Lib.hid (bput_calls w1 (w.heap.size + 1) v1 (([] : List Int) ++ putB 1 fl) 4 cost P1.out (by omega) (by omega) (by omega) (by simp [putB_len]))
  go_wp2_with fail
  refine C1.out.mono ?_
  rintro e w2 ⟨rfl, ⟨v2, Q2⟩, G2⟩
  have P2 := Lib.hid Q2
  have K2 := Lib.hid (below_box K1.out K1.out.size G2 (Nat.le_succ _))
  have X2 := Lib.hid ((G2.block _ (blk_lt X1.out) (by simp)).trans X1.out)
  have c2_0 : w2.cell? ⟨w.heap.size, 13, none⟩ = some (.int .u32 fwd) := blk_cell X2.out rfl
  have C2 := Lib.hid (bput_calls w2 (w.heap.size + 1) v2 (([] : List Int) ++ putB 1 fl ++ putB 4 cost) 4 fwd P2.out (by omega) (by omega) (by omega) (by simp [putB_len]))
  go_wp2_with fail
  refine C2.out.mono ?_
  rintro e w3 ⟨rfl, ⟨v3, Q3⟩, G3⟩
  have P3 := Lib.hid Q3
  have K3 := Lib.hid (below_box K2.out K2.out.size G3 (Nat.le_succ _))
  have X3 := Lib.hid ((G3.block _ (blk_lt X2.out) (by simp)).trans X2.out)
  have c3_0 : w3.cell? ⟨w.heap.size, 14, none⟩ = some (.int .i64 tag) := blk_cell X3.out rfl
  have C3 := Lib.hid (bput_calls w3 (w.heap.size + 1) v3 (([] : List Int) ++ putB 1 fl ++ putB 4 cost ++ putB 4 fwd) 4 tag P3.out (by omega) (by omega) (by omega) (by simp [putB_len]))
  go_wp2_with fail
  refine C3.out.mono ?_
  rintro e w4 ⟨rfl, ⟨v4, Q4⟩, G4⟩
  have P4 := Lib.hid Q4
  have K4 := Lib.hid (below_box K3.out K3.out.size G4 (Nat.le_succ _))
  have X4 := Lib.hid ((G4.block _ (blk_lt X3.out) (by simp)).trans X3.out)
  have cF : w4.cell? ⟨w.heap.size + 1, 0, none⟩ = some v4 := blk_cell P4.out.blk rfl
  go_wp2_with fail
  go_ret
  exact ⟨_, rfl, by have := P4.out.row; simpa using this, K4.out⟩

set_option maxHeartbeats 8000000 in
set_option maxRecDepth 100000 in
theorem lbody_c3 (x : Lsa) (ok : OkL x) (oh : OkH x) (ht : x.typ = 3) (w : World) : Calls Tryz.prog 159 #[.agg (lsaE x).toArray] w (BodyPost w (bodyB x)) := by
  obtain ⟨i0, i1, r0, r1, f0, f1⟩ := ok
  obtain ⟨-, -, l0, l1, s0, s1, a0, a1, u0, u1, k0, k1, g0, g1⟩ := oh
  unfold bodyB
  obtain ⟨typ, id, len, router, seq, age, sum, border, boundary, la, ln, lc, aa, an, ac, cost, second, fwd, tag⟩ := x
  simp only [lsaE] at *
  subst ht
  simp only [show ((3 : Int) = 5) = False from by simp, if_false]
  obtain ⟨W, hW⟩ : ∃ W, (w.alloc (.cells #[.int .i64 3, .int .u32 id, .int .i64 len, .int .u32 router, .int .i64 seq, .int .i64 age, .int .i64 sum, .bool border, .bool boundary, .slice la ln lc, .slice aa an ac, .int .i64 cost, .bool second, .int .u32 fwd, .int .i64 tag] 42)).alloc (.cells #[.slice none 0 0] 134) = W := ⟨_, rfl⟩
  have B0 : Below w.heap.size w W := by rw [← hW]; exact ((Below.refl _ _).alloc (Nat.le_refl _) _).alloc (by simp) _
  have bx : W.heap[w.heap.size]? = some (.cells #[.int .i64 3, .int .u32 id, .int .i64 len, .int .u32 router, .int .i64 seq, .int .i64 age, .int .i64 sum, .bool border, .bool boundary, .slice la ln lc, .slice aa an ac, .int .i64 cost, .bool second, .int .u32 fwd, .int .i64 tag] 42 (0, 0)) := by rw [← hW]; exact (alloc_get _ _ _ (by simp)).trans (alloc_new _ _)
  have by' : W.heap[w.heap.size + 1]? = some (.cells #[.slice none 0 0] 134 (0, 0)) := by rw [← hW]; exact blk_new2 _ _ _
  have P0 : Hid (PutBox (w.heap.size + 1) W (.slice none 0 0) []) := Lib.hid ⟨by', ⟨none, 0, rfl, by simp, by simp, fun _ => rfl, fun h => by simp at h⟩⟩
  have HW := Lib.hid hW
  have K0 := Lib.hid B0
  have X0 := Lib.hid bx
  have z0 : W.cell? ⟨w.heap.size, 0, none⟩ = some (.int .i64 3) := blk_cell bx rfl

  have z6 : W.cell? ⟨w.heap.size, 11, none⟩ = some (.int .i64 cost) := blk_cell bx rfl
  clear hW B0 bx by'
  go_enter Tryz.func159, Tryz.ntmps159
  go_upto_region 25 with fail
  rw [HW.out]
  go_wp2_with fail
  have C0 := Lib.hid (bput_calls W (w.heap.size + 1) (.slice none 0 0) (([] : List Int)) 4 cost P0.out (by omega) (by omega) (by omega) (by simp))
  refine C0.out.mono ?_
  rintro e w1 ⟨rfl, ⟨v1, Q1⟩, G1⟩
  have P1 := Lib.hid Q1
  have K1 := Lib.hid (below_box K0.out K0.out.size G1 (Nat.le_succ _))
  have X1 := Lib.hid ((G1.block _ (blk_lt X0.out) (by simp)).trans X0.out)
  have cF : w1.cell? ⟨w.heap.size + 1, 0, none⟩ = some v1 := blk_cell P1.out.blk rfl
  go_wp2_with fail
  go_ret
  exact ⟨_, rfl, by have := P1.out.row; simpa using this, K1.out⟩

set_option maxHeartbeats 8000000 in
set_option maxRecDepth 100000 in
theorem lbody_c4 (x : Lsa) (ok : OkL x) (oh : OkH x) (ht : x.typ = 4) (w : World) : Calls Tryz.prog 159 #[.agg (lsaE x).toArray] w (BodyPost w (bodyB x)) := by
  obtain ⟨i0, i1, r0, r1, f0, f1⟩ := ok
  obtain ⟨-, -, l0, l1, s0, s1, a0, a1, u0, u1, k0, k1, g0, g1⟩ := oh
  unfold bodyB
  obtain ⟨typ, id, len, router, seq, age, sum, border, boundary, la, ln, lc, aa, an, ac, cost, second, fwd, tag⟩ := x
  simp only [lsaE] at *
  subst ht
  simp only [show ((4 : Int) = 5) = False from by simp, if_false]
  obtain ⟨W, hW⟩ : ∃ W, (w.alloc (.cells #[.int .i64 4, .int .u32 id, .int .i64 len, .int .u32 router, .int .i64 seq, .int .i64 age, .int .i64 sum, .bool border, .bool boundary, .slice la ln lc, .slice aa an ac, .int .i64 cost, .bool second, .int .u32 fwd, .int .i64 tag] 42)).alloc (.cells #[.slice none 0 0] 134) = W := ⟨_, rfl⟩
  have B0 : Below w.heap.size w W := by rw [← hW]; exact ((Below.refl _ _).alloc (Nat.le_refl _) _).alloc (by simp) _
  have bx : W.heap[w.heap.size]? = some (.cells #[.int .i64 4, .int .u32 id, .int .i64 len, .int .u32 router, .int .i64 seq, .int .i64 age, .int .i64 sum, .bool border, .bool boundary, .slice la ln lc, .slice aa an ac, .int .i64 cost, .bool second, .int .u32 fwd, .int .i64 tag] 42 (0, 0)) := by rw [← hW]; exact (alloc_get _ _ _ (by simp)).trans (alloc_new _ _)
  have by' : W.heap[w.heap.size + 1]? = some (.cells #[.slice none 0 0] 134 (0, 0)) := by rw [← hW]; exact blk_new2 _ _ _
  have P0 : Hid (PutBox (w.heap.size + 1) W (.slice none 0 0) []) := Lib.hid ⟨by', ⟨none, 0, rfl, by simp, by simp, fun _ => rfl, fun h => by simp at h⟩⟩
  have HW := Lib.hid hW
  have K0 := Lib.hid B0
  have X0 := Lib.hid bx
  have z0 : W.cell? ⟨w.heap.size, 0, none⟩ = some (.int .i64 4) := blk_cell bx rfl

  have z6 : W.cell? ⟨w.heap.size, 11, none⟩ = some (.int .i64 cost) := blk_cell bx rfl
  clear hW B0 bx by'
  go_enter Tryz.func159, Tryz.ntmps159
  go_upto_region 25 with fail
  rw [HW.out]
  go_wp2_with fail
  have C0 := Lib.hid (bput_calls W (w.heap.size + 1) (.slice none 0 0) (([] : List Int)) 4 cost P0.out (by omega) (by omega) (by omega) (by simp))
  refine C0.out.mono ?_
  rintro e w1 ⟨rfl, ⟨v1, Q1⟩, G1⟩
  have P1 := Lib.hid Q1
  have K1 := Lib.hid (below_box K0.out K0.out.size G1 (Nat.le_succ _))
  have X1 := Lib.hid ((G1.block _ (blk_lt X0.out) (by simp)).trans X0.out)
  have cF : w1.cell? ⟨w.heap.size + 1, 0, none⟩ = some v1 := blk_cell P1.out.blk rfl
  go_wp2_with fail
  go_ret
  exact ⟨_, rfl, by have := P1.out.row; simpa using this, K1.out⟩

structure LbR (w : World) (L0 : List Int) (ob : Obj) (L : List Int) (wr : World) : Prop where
  bx : ∃ v, PutBox (w.heap.size + 1) wr v (L0 ++ L)
  bel : Below w.heap.size w wr
  xb : wr.heap[w.heap.size]? = some ob

set_option maxHeartbeats 8000000 in
set_option maxRecDepth 100000 in
theorem lbody_net (x : Lsa) (ht : x.typ = 2) (l : List Int) (w : World) (hl : WordsAt w (.slice x.aa x.an x.ac) l) (hr : ∀ y ∈ l, 0 ≤ y ∧ y < 4294967296) (hn : l.length ≤ 64) : Calls Tryz.prog 159 #[.agg (lsaE x).toArray] w (BodyPost w (bodyN l)) := by
  obtain ⟨typ, id, len, router, seq, age, sum, border, boundary, la, ln, lc, aa, an, ac, cost, second, fwd, tag⟩ := x
  simp only [lsaE] at *
  subst ht
  obtain ⟨W, hW⟩ : ∃ W, (w.alloc (.cells #[.int .i64 2, .int .u32 id, .int .i64 len, .int .u32 router, .int .i64 seq, .int .i64 age, .int .i64 sum, .bool border, .bool boundary, .slice la ln lc, .slice aa an ac, .int .i64 cost, .bool second, .int .u32 fwd, .int .i64 tag] 42)).alloc (.cells #[.slice none 0 0] 134) = W := ⟨_, rfl⟩
  have B0 : Below w.heap.size w W := by rw [← hW]; exact ((Below.refl _ _).alloc (Nat.le_refl _) _).alloc (by simp) _
  have bx : W.heap[w.heap.size]? = some (.cells #[.int .i64 2, .int .u32 id, .int .i64 len, .int .u32 router, .int .i64 seq, .int .i64 age, .int .i64 sum, .bool border, .bool boundary, .slice la ln lc, .slice aa an ac, .int .i64 cost, .bool second, .int .u32 fwd, .int .i64 tag] 42 (0, 0)) := by rw [← hW]; exact (alloc_get _ _ _ (by simp)).trans (alloc_new _ _)
  have by' : W.heap[w.heap.size + 1]? = some (.cells #[.slice none 0 0] 134 (0, 0)) := by rw [← hW]; exact blk_new2 _ _ _
  have P0 : Hid (PutBox (w.heap.size + 1) W (.slice none 0 0) []) := Lib.hid ⟨by', ⟨none, 0, rfl, by simp, by simp, fun _ => rfl, fun h => by simp at h⟩⟩
  have HW := Lib.hid hW
  have K0 := Lib.hid B0
  have X0 := Lib.hid bx
  have z0 : W.cell? ⟨w.heap.size, 0, none⟩ = some (.int .i64 2) := blk_cell bx rfl

  obtain ⟨a', cp', e', hc'⟩ := hl.get
  cases e'
  have HC := Lib.hid hc'
  have HR := Lib.hid hr
  have z6 : W.cell? ⟨w.heap.size, 10, none⟩ = some (.slice aa l.length ac) := blk_cell bx rfl
  clear hl hr hc'
  clear hW B0 bx by'
  go_enter Tryz.func159, Tryz.ntmps159
  go_upto_region 19 with fail
  rw [HW.out]
  go_wp2_with fail
  have C0 := Lib.hid (bput_calls W (w.heap.size + 1) (.slice none 0 0) (([] : List Int)) 1 l.length P0.out (by omega) (by omega) (by omega) (by simp))
  refine C0.out.mono ?_
  rintro e w1 ⟨rfl, ⟨v1, Q1⟩, G1⟩
  have P1 := Lib.hid Q1
  have K1 := Lib.hid (below_box K0.out K0.out.size G1 (Nat.le_succ _))
  have X1 := Lib.hid ((G1.block _ (blk_lt X0.out) (by simp)).trans X0.out)
  have c1_0 : w1.cell? ⟨w.heap.size, 10, none⟩ = some (.slice aa l.length ac) := blk_cell X1.out rfl
  have ST : Hid (LbR w (putB 1 l.length) (.cells #[.int .i64 2, .int .u32 id, .int .i64 len, .int .u32 router, .int .i64 seq, .int .i64 age, .int .i64 sum, .bool border, .bool boundary, .slice la ln lc, .slice aa l.length ac, .int .i64 cost, .bool second, .int .u32 fwd, .int .i64 tag] 42 (0, 0)) (attB (l.take 0)) w1) := Lib.hid ⟨⟨v1, by have := P1.out; simpa [attB] using this⟩, K1.out, X1.out⟩
  clear Q1 G1 P1 K1 X1 C0 P0 K0 X0 z0 z6 HW
  generalize Obj.cells #[.int .i64 2, .int .u32 id, .int .i64 len, .int .u32 router, .int .i64 seq, .int .i64 age, .int .i64 sum, .bool border, .bool boundary, .slice la ln lc, .slice aa l.length ac, .int .i64 cost, .bool second, .int .u32 fwd, .int .i64 tag] 42 (0, 0) = OB at ST
  go_wp2_with fail
  clear c1_0
  go_loopw [75] (fun ix wr => ∃ k : Nat, ix = .int .i64 k ∧ k ≤ l.length ∧ Hid (LbR w (putB 1 l.length) OB (attB (l.take k)) wr)) (fun ix _ => l.length - (intOf ix).toNat)
  case atStart => exact ⟨0, rfl, Nat.zero_le _, ST⟩
  case round =>
    clear ST
    obtain ⟨k, rfl, hk, R⟩ := hrel
    obtain ⟨vb, PB⟩ := R.out.bx
    by_cases c : k < l.length
    · obtain ⟨b, off, rfl, hb, hcc⟩ := HC.out (by omega)
      have d0 := (World.cell?_of_block (w := w) (w' := wr) (a := ⟨b, off + k, none⟩) (R.out.bel.block b hb)).trans (hcc k c)
      obtain ⟨r0, r1⟩ := HR.out l[k] (List.getElem_mem c)
      have i1 : (k : Int) < (l.length : Int) := by omega
      have BC := Lib.hid (bput_calls wr (w.heap.size + 1) vb _ 4 l[k] PB (by omega) r0 (by omega) (by rw [List.length_append, putB_len, attB_len, List.length_take]; omega))
      have NX : Hid (∀ w2, PutC (w.heap.size + 1) wr (putB 1 l.length ++ attB (l.take k) ++ putB 4 l[k]) (.returned (.tuple #[])) w2 → Hid (LbR w (putB 1 l.length) OB (attB (l.take (k + 1))) w2)) := Lib.hid (fun w2 ⟨_, ⟨v', Q⟩, G⟩ => Lib.hid ⟨⟨v', by rw [attB_take l k c, ← List.append_assoc]; exact Q⟩, below_box R.out.bel R.out.bel.size G (Nat.le_succ _), (G.block _ (blk_lt R.out.xb) (by simp)).trans R.out.xb⟩)
      clear hcc R PB
      generalize l[k] = y at *
      go_wp2_with fail
      refine BC.out.mono ?_
      rintro e w2 QQ
      have NY := NX.out w2 (by rw [← QQ.1]; exact QQ)
      obtain ⟨rfl, -, -⟩ := QQ
      clear NX BC d0
      go_wp2_with fail
      go_roundw
      case rel => exact ⟨k + 1, by go_num, c, NY⟩
      case measure => simp [intOf]; omega
    · have ek : k = l.length := by omega
      have cF : wr.cell? ⟨w.heap.size + 1, 0, none⟩ = some vb := blk_cell PB.blk rfl
      have FI : Hid (BodyPost w (bodyN l) (.returned vb) wr) := Lib.hid ⟨vb, rfl, by have := PB.row; rw [ek, List.take_length] at this; exact this, R.out.bel⟩
      clear R PB
      go_wp2_with fail
      go_ret
      exact FI.out

set_option maxHeartbeats 8000000 in
set_option maxRecDepth 100000 in
theorem lbody_rtr (x : Lsa) (ht : x.typ = 1) (l : List Lnk) (w : World) (hl : LnksAt w (.slice x.la x.ln x.lc) l) (hr : ∀ y ∈ l, OkK y) (hn : l.length ≤ 64) : Calls Tryz.prog 159 #[.agg (lsaE x).toArray] w (BodyPost w (bodyR x.border x.boundary l)) := by
  obtain ⟨typ, id, len, router, seq, age, sum, border, boundary, la, ln, lc, aa, an, ac, cost, second, fwd, tag⟩ := x
  simp only [lsaE] at *
  subst ht
  obtain ⟨W, hW⟩ : ∃ W, (w.alloc (.cells #[.int .i64 1, .int .u32 id, .int .i64 len, .int .u32 router, .int .i64 seq, .int .i64 age, .int .i64 sum, .bool border, .bool boundary, .slice la ln lc, .slice aa an ac, .int .i64 cost, .bool second, .int .u32 fwd, .int .i64 tag] 42)).alloc (.cells #[.slice none 0 0] 134) = W := ⟨_, rfl⟩
  have B0 : Below w.heap.size w W := by rw [← hW]; exact ((Below.refl _ _).alloc (Nat.le_refl _) _).alloc (by simp) _
  have bx : W.heap[w.heap.size]? = some (.cells #[.int .i64 1, .int .u32 id, .int .i64 len, .int .u32 router, .int .i64 seq, .int .i64 age, .int .i64 sum, .bool border, .bool boundary, .slice la ln lc, .slice aa an ac, .int .i64 cost, .bool second, .int .u32 fwd, .int .i64 tag] 42 (0, 0)) := by rw [← hW]; exact (alloc_get _ _ _ (by simp)).trans (alloc_new _ _)
  have by' : W.heap[w.heap.size + 1]? = some (.cells #[.slice none 0 0] 134 (0, 0)) := by rw [← hW]; exact blk_new2 _ _ _
  have P0 : Hid (PutBox (w.heap.size + 1) W (.slice none 0 0) []) := Lib.hid ⟨by', ⟨none, 0, rfl, by simp, by simp, fun _ => rfl, fun h => by simp at h⟩⟩
  have HW := Lib.hid hW
  have K0 := Lib.hid B0
  have X0 := Lib.hid bx
  have z0 : W.cell? ⟨w.heap.size, 0, none⟩ = some (.int .i64 1) := blk_cell bx rfl

  obtain ⟨a', cp', e', hc'⟩ := hl.get
  cases e'
  have HC := Lib.hid hc'
  have HR := Lib.hid hr
  have FA := Lib.hid (fun W => flag_calls border 1 W)
  have FB := Lib.hid (fun W => flag_calls boundary 2 W)
  have EO := or_flags border boundary
  obtain ⟨hf0, hf1⟩ : 0 ≤ flagsP border boundary ∧ flagsP border boundary < 18446744073709551616 := by cases border <;> cases boundary <;> decide
  unfold bodyR
  obtain ⟨fl, hfl⟩ : ∃ fl, fl = flagsP border boundary := ⟨_, rfl⟩
  rw [← hfl] at EO hf0 hf1 ⊢
  clear hfl
  have z6 : W.cell? ⟨w.heap.size, 7, none⟩ = some (.bool border) := blk_cell bx rfl
  have z7 : W.cell? ⟨w.heap.size, 8, none⟩ = some (.bool boundary) := blk_cell bx rfl
  obtain ⟨fa, hfa⟩ : ∃ fa : Int, (if border = true then 1 else 0) = fa := ⟨_, rfl⟩
  obtain ⟨fb, hfb⟩ : ∃ fb : Int, (if boundary = true then 2 else 0) = fb := ⟨_, rfl⟩
  rw [hfa] at FA EO
  rw [hfb] at FB EO
  clear hfa hfb
  clear hl hr hc'
  have PD : Hid (PutBox (w.heap.size + 1) W.drew (.slice none 0 0) []) := Lib.hid ⟨by', ⟨none, 0, rfl, by simp, by simp, fun _ => rfl, fun h => by simp at h⟩⟩
  have C0 : Hid (Calls Tryz.prog 175 #[.int .i64 1, .int .u64 fl, .pointer (some ⟨w.heap.size + 1, 0, none⟩)] W.drew (PutC (w.heap.size + 1) W.drew ([] ++ putB 1 fl))) := Lib.hid (bput_calls W.drew (w.heap.size + 1) (.slice none 0 0) (([] : List Int)) 1 fl PD.out (by omega) (by omega) (by omega) (by simp))
  clear hW B0 bx by'
  go_enter Tryz.func159, Tryz.ntmps159
  go_upto_region 9 with fail
  rw [HW.out]
  go_wp2_with fail
  go_region_held3 (fun W' => W'.cell? ⟨w.heap.size, 7, none⟩ = some (.bool border) ∧ W'.cell? ⟨w.heap.size, 8, none⟩ = some (.bool boundary)) (first | with_reducible exact ⟨z6, z7⟩ | with_reducible exact ⟨u6, u7⟩ | go_keep)
    (first
    | (go_at_call 176; ((with_reducible refine (FA.out _).mono ?_)); rintro e w' ⟨rfl, rfl⟩)
    | (go_at_call 176; ((with_reducible refine (FB.out _).mono ?_)); rintro e w' ⟨rfl, rfl⟩)
    | (go_at_call 175; ((with_reducible refine C0.out.mono ?_)); rintro e w1 ⟨rfl, ⟨v1, Q1⟩, G1⟩; have P1 := Lib.hid Q1; have K1 := Lib.hid (below_box (K0.out.drew) K0.out.drew.size G1 (Nat.le_succ _)); have X1 := Lib.hid ((G1.block _ (blk_lt X0.out) (by simp)).trans X0.out); have u6 : w1.cell? ⟨w.heap.size, 7, none⟩ = some (.bool border) := blk_cell X1.out rfl; have u7 : w1.cell? ⟨w.heap.size, 8, none⟩ = some (.bool boundary) := blk_cell X1.out rfl; clear Q1 G1))
  have c1_0 : w1.cell? ⟨w.heap.size, 9, none⟩ = some (.slice la l.length lc) := blk_cell X1.out rfl
  clear EO u6 u7 z0 z6 z7 FA FB C0 PD
  have C1 := Lib.hid (bput_calls w1 (w.heap.size + 1) v1 ([] ++ putB 1 fl) 1 l.length P1.out (by omega) (by omega) (by omega) (by simp [putB_len]))
  go_wp2_with fail
  refine C1.out.mono ?_
  rintro e w2 ⟨rfl, ⟨v2, Q2⟩, G2⟩
  have P2 := Lib.hid Q2
  have K2 := Lib.hid (below_box K1.out K1.out.size G2 (Nat.le_succ _))
  have X2 := Lib.hid ((G2.block _ (blk_lt X1.out) (by simp)).trans X1.out)
  have c2_0 : w2.cell? ⟨w.heap.size, 9, none⟩ = some (.slice la l.length lc) := blk_cell X2.out rfl
  have ST : Hid (LbR w (putB 1 fl ++ putB 1 l.length) (.cells #[.int .i64 1, .int .u32 id, .int .i64 len, .int .u32 router, .int .i64 seq, .int .i64 age, .int .i64 sum, .bool border, .bool boundary, .slice la l.length lc, .slice aa an ac, .int .i64 cost, .bool second, .int .u32 fwd, .int .i64 tag] 42 (0, 0)) (lnksB (l.take 0)) w2) := Lib.hid ⟨⟨v2, by have := P2.out; simpa [lnksB] using this⟩, K2.out, X2.out⟩
  clear Q2 G2 P2 K2 X2 C1 P1 K1 X1 P0 K0 X0 HW c1_0
  generalize Obj.cells #[.int .i64 1, .int .u32 id, .int .i64 len, .int .u32 router, .int .i64 seq, .int .i64 age, .int .i64 sum, .bool border, .bool boundary, .slice la l.length lc, .slice aa an ac, .int .i64 cost, .bool second, .int .u32 fwd, .int .i64 tag] 42 (0, 0) = OB at ST
  go_wp2_with fail
  clear c2_0
  go_loopw [41] (fun ix wr => ∃ k : Nat, ix = .int .i64 k ∧ k ≤ l.length ∧ Hid (LbR w (putB 1 fl ++ putB 1 l.length) OB (lnksB (l.take k)) wr)) (fun ix _ => l.length - (intOf ix).toNat)
  case atStart => exact ⟨0, rfl, Nat.zero_le _, ST⟩
  case round =>
    clear ST
    obtain ⟨k, rfl, hk, R⟩ := hrel
    obtain ⟨vb, PB⟩ := R.out.bx
    by_cases c : k < l.length
    · obtain ⟨b, off, rfl, hb, hcc⟩ := HC.out (by omega)
      have up : ∀ {o : Nat} {u : Value}, w.cell? ⟨b, o, none⟩ = some u → wr.cell? ⟨b, o, none⟩ = some u := fun {o u} hh => (World.cell?_of_block (w := w) (w' := wr) (a := ⟨b, o, none⟩) (R.out.bel.block b hb)).trans hh
      obtain ⟨e0, e1, e2, e3⟩ := hcc k c
      have d0 := up e0
      have d1 := up e1
      have d2 := up e2
      have d3 := up e3
      have OK := HR.out l[k] (List.getElem_mem c)
      have i1 : (k : Int) < (l.length : Int) := by omega
      have LE : Hid ((putB 1 fl ++ putB 1 l.length ++ lnksB (l.take k)).length ≤ 1000) := Lib.hid (by rw [List.length_append, List.length_append, putB_len, putB_len, lnksB_len, List.length_take]; omega)
      have NX : Hid (∀ w2, Below wr.heap.size wr (wr.alloc (.cells #[.int .i64 l[k].kind, .int .u32 l[k].id, .int .u32 l[k].data, .int .i64 l[k].cost] 82)) → (∃ v', PutBox (w.heap.size + 1) w2 v' (putB 1 fl ++ putB 1 l.length ++ lnksB (l.take k) ++ putB 1 l[k].kind ++ putB 4 l[k].id ++ putB 4 l[k].data ++ putB 2 l[k].cost)) → wr.grownBy w2 (some (w.heap.size + 1)) → Hid (LbR w (putB 1 fl ++ putB 1 l.length) OB (lnksB (l.take (k + 1))) w2)) := Lib.hid (fun w2 _ ⟨v', Q⟩ G => Lib.hid ⟨⟨v', by rw [lnksB_take l k c]; unfold lnkB; simpa [List.append_assoc] using Q⟩, below_box R.out.bel R.out.bel.size G (Nat.le_succ _), (G.block _ (blk_lt R.out.xb) (by simp)).trans R.out.xb⟩)
      have PBH := Lib.hid PB
      clear hcc R PB up e0 e1 e2 e3
      obtain ⟨ok0, ok1, ok2, ok3, ok4, ok5, ok6, ok7⟩ := OK
      generalize l[k] = y at *
      obtain ⟨yk, yi, yd, yc⟩ := y
      simp only at d0 d1 d2 d3 ok0 ok1 ok2 ok3 ok4 ok5 ok6 ok7 NX
      obtain ⟨W1, hW1⟩ : ∃ W1, wr.alloc (.cells #[.int .i64 yk, .int .u32 yi, .int .u32 yd, .int .i64 yc] 82) = W1 := ⟨_, rfl⟩
      have B1 : Below wr.heap.size wr W1 := by rw [← hW1]; exact (Below.refl _ _).alloc (Nat.le_refl _) _
      have b1 : W1.heap[wr.heap.size]? = some (.cells #[.int .i64 yk, .int .u32 yi, .int .u32 yd, .int .i64 yc] 82 (0, 0)) := by rw [← hW1]; exact alloc_new _ _
      have x0 : W1.cell? ⟨wr.heap.size, 0, none⟩ = some (.int .i64 yk) := blk_cell b1 rfl
      have NZ : wr.heap.size ≠ w.heap.size + 1 := by have := blk_lt PBH.out.blk; omega
      have HNZ := Lib.hid NZ
      have Y0 := Lib.hid b1
      have S0 := Lib.hid (PBH.out.grow B1)
      have F0 : Hid (wr.grownBy W1 (some (w.heap.size + 1))) := Lib.hid (grown_of_below B1 _)
      have NB := Lib.hid (fun w2 => NX.out w2 (by rw [hW1]; exact B1))
      have HW1 := Lib.hid hW1
      clear hW1 B1 b1 NX NZ
      go_upto_region 14 with fail
      rw [HW1.out]
      clear d0 d1 d2 d3
      have C0 := Lib.hid (bput_calls W1 (w.heap.size + 1) vb (putB 1 fl ++ putB 1 l.length ++ lnksB (l.take k)) 1 yk S0.out (by omega) (by omega) (by omega) (by have := LE.out; simp only [List.length_append, putB_len] at *; omega))
      go_wp2_with fail
      refine C0.out.mono ?_
      rintro e w3 ⟨rfl, ⟨v3, Q3⟩, G3⟩
      have S1 := Lib.hid Q3
      have F1 := Lib.hid (F0.out.andThen G3 (fun j hj => .inr hj.symm.symm))
      have Y1 := Lib.hid ((G3.block _ (blk_lt Y0.out) (by simpa using HNZ.out)).trans Y0.out)
      have x1 : w3.cell? ⟨wr.heap.size, 1, none⟩ = some (.int .u32 yi) := blk_cell Y1.out rfl
      clear Q3 G3 C0 x0 Y0
      have C1 := Lib.hid (bput_calls w3 (w.heap.size + 1) v3 (putB 1 fl ++ putB 1 l.length ++ lnksB (l.take k) ++ putB 1 yk) 4 yi S1.out (by omega) (by omega) (by omega) (by have := LE.out; simp only [List.length_append, putB_len] at *; omega))
      go_wp2_with fail
      refine C1.out.mono ?_
      rintro e w4 ⟨rfl, ⟨v4, Q4⟩, G4⟩
      have S2 := Lib.hid Q4
      have F2 := Lib.hid (F1.out.andThen G4 (fun j hj => .inr hj.symm.symm))
      have Y2 := Lib.hid ((G4.block _ (blk_lt Y1.out) (by simpa using HNZ.out)).trans Y1.out)
      have x2 : w4.cell? ⟨wr.heap.size, 2, none⟩ = some (.int .u32 yd) := blk_cell Y2.out rfl
      clear Q4 G4 C1 x1 Y1
      have C2 := Lib.hid (bput_calls w4 (w.heap.size + 1) v4 (putB 1 fl ++ putB 1 l.length ++ lnksB (l.take k) ++ putB 1 yk ++ putB 4 yi) 4 yd S2.out (by omega) (by omega) (by omega) (by have := LE.out; simp only [List.length_append, putB_len] at *; omega))
      go_wp2_with fail
      refine C2.out.mono ?_
      rintro e w5 ⟨rfl, ⟨v5, Q5⟩, G5⟩
      have S3 := Lib.hid Q5
      have F3 := Lib.hid (F2.out.andThen G5 (fun j hj => .inr hj.symm.symm))
      have Y3 := Lib.hid ((G5.block _ (blk_lt Y2.out) (by simpa using HNZ.out)).trans Y2.out)
      have x3 : w5.cell? ⟨wr.heap.size, 3, none⟩ = some (.int .i64 yc) := blk_cell Y3.out rfl
      clear Q5 G5 C2 x2 Y2
      have C3 := Lib.hid (bput_calls w5 (w.heap.size + 1) v5 (putB 1 fl ++ putB 1 l.length ++ lnksB (l.take k) ++ putB 1 yk ++ putB 4 yi ++ putB 4 yd) 2 yc S3.out (by omega) (by omega) (by omega) (by have := LE.out; simp only [List.length_append, putB_len] at *; omega))
      go_wp2_with fail
      refine C3.out.mono ?_
      rintro e w6 ⟨rfl, ⟨v6, Q6⟩, G6⟩
      have S4 := Lib.hid Q6
      have F4 := Lib.hid (F3.out.andThen G6 (fun j hj => .inr hj.symm.symm))
      have NY := NB.out w6 ⟨v6, S4.out⟩ F4.out
      clear Q6 G6 C3 x3 NB
      go_wp2_with fail
      go_roundw
      case rel => exact ⟨k + 1, by go_num, c, NY⟩
      case measure => simp [intOf]; omega
    · have ek : k = l.length := by omega
      have cF : wr.cell? ⟨w.heap.size + 1, 0, none⟩ = some vb := blk_cell PB.blk rfl
      have FI : Hid (BodyPost w (putB 1 fl ++ putB 1 l.length ++ lnksB l) (.returned vb) wr) := Lib.hid ⟨vb, rfl, by have := PB.row; rw [ek, List.take_length] at this; exact this, R.out.bel⟩
      clear R PB
      go_wp2_with fail
      go_ret
      exact FI.out

end Go.Proofs.YtddageahmgaigaaGreat
