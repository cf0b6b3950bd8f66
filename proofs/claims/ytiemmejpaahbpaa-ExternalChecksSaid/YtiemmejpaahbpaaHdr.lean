/-
  routingref23.Header, flags, Body (of summaries, boundaries, external advertisements), Bytes.
-/
import Derived.Test.YtiemmejpaahbpaaPut
namespace Go.Proofs.Ytiemmejpaahbpaa
open Go.RowKit

theorem own_base {base base' : Nat} {w : World} {v : Value} {l : List Int} (h : BytesOwn base w v l) (hb : base' ≤ base) : BytesOwn base' w v l := by
  refine ⟨h.1, ?_⟩
  rcases h.2 with h | ⟨g, cap, cur, h1, h2, h3⟩
  · exact .inl h
  · exact .inr ⟨g, cap, cur, h1, Nat.le_trans hb h2, h3⟩

/-- the fields of an advertisement lie in their ranges -/
structure OkH (x : Lsa) : Prop where
  t0 : 0 ≤ x.typ
  t1 : x.typ ≤ 5
  l0 : 0 ≤ x.len
  l1 : x.len ≤ 32
  s0 : 0 ≤ x.seq
  s1 : x.seq ≤ 2147483647
  a0 : 0 ≤ x.age
  a1 : x.age ≤ 3600
  u0 : 0 ≤ x.sum
  u1 : x.sum ≤ 65535
  c0 : 0 ≤ x.cost
  c1 : x.cost ≤ 16777216
  g0 : 0 ≤ x.tag
  g1 : x.tag ≤ 4294967295

def hdrB (x : Lsa) : List Int := putB 2 x.age ++ putB 1 x.typ ++ putB 1 x.len ++ putB 4 x.id ++ putB 4 x.router ++ putB 4 x.seq ++ putB 2 x.sum

theorem hdrB_len (x : Lsa) : (hdrB x).length = 18 := by simp [hdrB, putB_len]

set_option maxHeartbeats 4000000 in
set_option maxRecDepth 100000 in
theorem header_calls (x : Lsa) (ok : OkL x) (oh : OkH x) (w : World) : Calls Try.prog 80 #[.agg (hdE x.typ x.id x.len x.router x.seq x.age x.sum).toArray] w (PutPost w.heap.size w (hdrB x)) := by
  obtain ⟨i0, i1, r0, r1, -, -⟩ := ok
  obtain ⟨t0, t1, l0, l1, s0, s1, a0, a1, u0, u1, -, -, -, -⟩ := oh
  unfold hdrB
  obtain ⟨typ, id, len, router, seq, age, sum, border, boundary, la, ln, lc, aa, an, ac, cost, second, fwd, tag⟩ := x
  simp only [hdE] at *
  obtain ⟨W, hW⟩ : ∃ W, w.alloc (.cells #[.int .i64 typ, .int .u32 id, .int .i64 len, .int .u32 router, .int .i64 seq, .int .i64 age, .int .i64 sum] 39) = W := ⟨_, rfl⟩
  have hs : W.heap.size = w.heap.size + 1 := by rw [← hW]; simp
  have B0 : Below w.heap.size w W := by rw [← hW]; exact (Below.refl _ _).alloc (Nat.le_refl _) _
  have bx : W.heap[w.heap.size]? = some (.cells #[.int .i64 typ, .int .u32 id, .int .i64 len, .int .u32 router, .int .i64 seq, .int .i64 age, .int .i64 sum] 39 (0, 0)) := by rw [← hW]; exact alloc_new _ _
  have HW := Lib.hid hW
  have HB0 := Lib.hid B0
  have HBX := Lib.hid bx
  have HS := Lib.hid hs
  clear hW B0 bx hs
  go_enter Try.func80, Try.ntmps80
  go_wp2_with fail
  rw [HW.out]
  have C0 := Lib.hid (put_calls W.heap.size W (.slice none 0 0) [] 2 age (World.ownsRow_nil _ _ _ _) (Nat.le_refl _) (by omega) (by omega) (by omega) (by simp))
  refine C0.out.mono ?_
  rintro e w1 ⟨v1, rfl, O1, BB1⟩
  have O1 : BytesOwn W.heap.size w1 v1 (putB 2 age) := O1
  have B1 : Below W.heap.size W w1 := BB1
  have OH1 := Lib.hid O1
  have B1h := Lib.hid B1
  have C1 := Lib.hid (put_calls W.heap.size w1 v1 (putB 2 age) 1 typ OH1.out B1h.out.size (by omega) (by omega) (by omega) (by simp [putB_len]))
  have c1 : w1.cell? ⟨w.heap.size, 0, none⟩ = some (.int .i64 typ) := blk_cell ((B1h.out.block w.heap.size (by have := HS.out; omega)).trans HBX.out) rfl
  clear O1 B1 BB1 C0
  go_wp2_with fail
  refine C1.out.mono ?_
  rintro e w2 ⟨v2, rfl, O2, BB2⟩
  have B2 : Below W.heap.size W w2 := B1h.out.trans BB2
  have OH2 := Lib.hid O2
  have B2h := Lib.hid B2
  have C2 := Lib.hid (put_calls W.heap.size w2 v2 (putB 2 age ++ putB 1 typ) 1 len OH2.out B2h.out.size (by omega) (by omega) (by omega) (by simp [putB_len]))
  have c2 : w2.cell? ⟨w.heap.size, 2, none⟩ = some (.int .i64 len) := blk_cell ((B2h.out.block w.heap.size (by have := HS.out; omega)).trans HBX.out) rfl
  clear O2 B2 BB2 C1 c1 OH1
  go_wp2_with fail
  refine C2.out.mono ?_
  rintro e w3 ⟨v3, rfl, O3, BB3⟩
  have B3 : Below W.heap.size W w3 := B2h.out.trans BB3
  have OH3 := Lib.hid O3
  have B3h := Lib.hid B3
  have C3 := Lib.hid (put_calls W.heap.size w3 v3 (putB 2 age ++ putB 1 typ ++ putB 1 len) 4 id OH3.out B3h.out.size (by omega) (by omega) (by omega) (by simp [putB_len]))
  have c3 : w3.cell? ⟨w.heap.size, 1, none⟩ = some (.int .u32 id) := blk_cell ((B3h.out.block w.heap.size (by have := HS.out; omega)).trans HBX.out) rfl
  clear O3 B3 BB3 C2 c2 OH2
  go_wp2_with fail
  refine C3.out.mono ?_
  rintro e w4 ⟨v4, rfl, O4, BB4⟩
  have B4 : Below W.heap.size W w4 := B3h.out.trans BB4
  have OH4 := Lib.hid O4
  have B4h := Lib.hid B4
  have C4 := Lib.hid (put_calls W.heap.size w4 v4 (putB 2 age ++ putB 1 typ ++ putB 1 len ++ putB 4 id) 4 router OH4.out B4h.out.size (by omega) (by omega) (by omega) (by simp [putB_len]))
  have c4 : w4.cell? ⟨w.heap.size, 3, none⟩ = some (.int .u32 router) := blk_cell ((B4h.out.block w.heap.size (by have := HS.out; omega)).trans HBX.out) rfl
  clear O4 B4 BB4 C3 c3 OH3
  go_wp2_with fail
  refine C4.out.mono ?_
  rintro e w5 ⟨v5, rfl, O5, BB5⟩
  have B5 : Below W.heap.size W w5 := B4h.out.trans BB5
  have OH5 := Lib.hid O5
  have B5h := Lib.hid B5
  have C5 := Lib.hid (put_calls W.heap.size w5 v5 (putB 2 age ++ putB 1 typ ++ putB 1 len ++ putB 4 id ++ putB 4 router) 4 seq OH5.out B5h.out.size (by omega) (by omega) (by omega) (by simp [putB_len]))
  have c5 : w5.cell? ⟨w.heap.size, 4, none⟩ = some (.int .i64 seq) := blk_cell ((B5h.out.block w.heap.size (by have := HS.out; omega)).trans HBX.out) rfl
  clear O5 B5 BB5 C4 c4 OH4
  go_wp2_with fail
  refine C5.out.mono ?_
  rintro e w6 ⟨v6, rfl, O6, BB6⟩
  have B6 : Below W.heap.size W w6 := B5h.out.trans BB6
  have OH6 := Lib.hid O6
  have B6h := Lib.hid B6
  have C6 := Lib.hid (put_calls W.heap.size w6 v6 (putB 2 age ++ putB 1 typ ++ putB 1 len ++ putB 4 id ++ putB 4 router ++ putB 4 seq) 2 sum OH6.out B6h.out.size (by omega) (by omega) (by omega) (by simp [putB_len]))
  have c6 : w6.cell? ⟨w.heap.size, 6, none⟩ = some (.int .i64 sum) := blk_cell ((B6h.out.block w.heap.size (by have := HS.out; omega)).trans HBX.out) rfl
  clear O6 B6 BB6 C5 c5 OH5
  go_wp2_with fail
  refine C6.out.mono ?_
  rintro e w7 ⟨v7, rfl, O7, BB7⟩
  have B7 : Below W.heap.size W w7 := B6h.out.trans BB7
  have FIN : Hid (PutPost w.heap.size w (putB 2 age ++ putB 1 typ ++ putB 1 len ++ putB 4 id ++ putB 4 router ++ putB 4 seq ++ putB 2 sum) (.returned v7) w7) := Lib.hid (by
    refine ⟨v7, rfl, ?_, HB0.out.trans (B7.mono (by have := HS.out; omega))⟩
    exact own_base O7 (by have := HS.out; omega))
  clear O7 B7 BB7 C6 c6 OH6
  go_wp2_with fail
  go_ret
  exact FIN.out

end Go.Proofs.Ytiemmejpaahbpaa
