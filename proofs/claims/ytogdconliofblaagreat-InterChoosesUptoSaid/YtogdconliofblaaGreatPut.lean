/-
  routingref23.Put: the bytes of a number are appended.
-/
/-
  routingref23.Header, flags, Body (of summaries, boundaries, external advertisements), Bytes.
-/
import Derived.Test.YtogdconliofblaaGreatHed
import Derived.Test.YtogdconliofblaaGreatGrw
namespace Go.Proofs.YtogdconliofblaaGreat
open Go.RowKit

theorem Tryz.infoU8 : (Tryz.prog.info? 5).map (fun i => (i.zero, i.size, i.bytes)) = some (some (.int .u8 0), 1, 1) := by kernel_rfl

def byE (b : Int) : List Value := [.int .u8 b]
def BytesAt (w : World) (v : Value) (l : List Int) : Prop := SlV 1 w v (l.map byE)
def BytesOwn (base : Nat) (w : World) (v : Value) (l : List Int) : Prop := w.ownsRow base 5 1 v l.length (l.map byE).flatten

theorem byE_len (l : List Int) : ∀ c ∈ l.map byE, c.length = 1 := by
  intro c hc
  obtain ⟨h, _, rfl⟩ := List.mem_map.1 hc
  rfl
theorem byE_one (l : List Int) : ∀ c ∈ l.map byE, ∀ u ∈ c, u.oneCell' = true := by
  intro c hc u hu
  obtain ⟨h, _, rfl⟩ := List.mem_map.1 hc
  simp [byE] at hu; subst hu; rfl
theorem BytesOwn.at {base : Nat} {w : World} {v : Value} {l : List Int} (h : BytesOwn base w v l) : BytesAt w v l := SlV.of_own (byE_len l) (by simpa [BytesOwn] using h)
theorem BytesAt.below {w w' : World} {v : Value} {l : List Int} (h : BytesAt w v l) (hb : Below w.heap.size w w') : BytesAt w' v l := SlV.below h hb
theorem BytesOwn.below {base : Nat} {w w' : World} {v : Value} {l : List Int} (h : BytesOwn base w v l) (hb : Below w.heap.size w w') : BytesOwn base w' v l :=
  World.ownsRow.kept (row := none) h ⟨hb.os, hb.tape, hb.output, hb.size, fun k hk _ => hb.block k hk⟩ (by cases v.ownBlock <;> simp)

/-- a new one-element row -/
theorem sl_one {w : World} {vals : List Value} {t : TypeId} : SlV vals.length (w.alloc (.cells vals.toArray t)) (.slice (some ⟨w.heap.size, 0, none⟩) 1 1) [vals] := by
  have hb := alloc_new w (.cells vals.toArray t)
  refine ⟨_, 1, rfl, Nat.le_refl _, by unfold maxLen; omega, (fun h => by cases h), fun _ => ⟨_, 0, rfl, blk_lt hb, fun i hi j u hu => ?_⟩⟩
  have : i = 0 := by simpa using hi
  subst this
  simp only [List.getElem_cons_zero] at hu
  simp only [Nat.zero_mul, Nat.zero_add]
  exact blk_cell hb (by simpa using hu)

/-- the n last bytes of x, the highest first -/
def putB : Nat → Int → List Int
  | 0, _ => []
  | n + 1, x => (x / 2 ^ (8 * n) % 256) :: putB n x
theorem putB_len (n : Nat) (x : Int) : (putB n x).length = n := by
  induction n with
  | zero => rfl
  | succ n ih => simp [putB, ih]

def PutPost (base : Nat) (w : World) (l : List Int) (e : Ending) (w' : World) : Prop := ∃ v, e = .returned v ∧ BytesOwn base w' v l ∧ Below base w w'

structure PutRel (base : Nat) (w : World) (l : List Int) (n : Nat) (x : Int) (rem : Nat) (v : Value) (L : List Int) (wr : World) : Prop where
  own : BytesOwn base wr v L
  bel : Below base w wr
  eq : L ++ putB rem x = l ++ putB n x
  len : L.length + rem = l.length + n

theorem PutRel.step {base : Nat} {w : World} {l : List Int} {n : Nat} {x : Int} {j : Nat} {v v' : Value} {L : List Int} {wr w3 w4 : World} (R : PutRel base w l n x (j + 1) v L wr) (hbs : base ≤ w.heap.size) (hb : Below wr.heap.size wr w3)
    (own' : w4.ownsRow base 5 1 v' (L.length + [byE (x / 2 ^ (8 * j) % 256)].length) ((L.map byE).flatten ++ [byE (x / 2 ^ (8 * j) % 256)].flatten)) (hg : w3.grownBy w4 v.ownBlock) : PutRel base w l n x j v' (L ++ [x / 2 ^ (8 * j) % 256]) w4 := by
  have hB3 : Below base w w3 := R.bel.trans (hb.mono (Nat.le_trans hbs R.bel.size))
  refine ⟨?_, ?_, ?_, ?_⟩
  · unfold BytesOwn
    have e : (L ++ [x / 2 ^ (8 * j) % 256]).length = L.length + [byE (x / 2 ^ (8 * j) % 256)].length := by simp
    have e2 : ((L ++ [x / 2 ^ (8 * j) % 256]).map byE).flatten = (L.map byE).flatten ++ [byE (x / 2 ^ (8 * j) % 256)].flatten := by simp
    rw [e, e2]; exact own'
  · exact hB3.grown hg (Nat.le_trans hbs hB3.size) (fun k hk => (R.own.lt k hk).1)
  · have := R.eq; simpa [putB] using this
  · have := R.len; simp; omega

set_option maxHeartbeats 2000000 in
set_option maxRecDepth 100000 in
theorem put_calls (base : Nat) (w : World) (v : Value) (l : List Int) (n : Nat) (x : Int) (h : BytesOwn base w v l) (hbs : base ≤ w.heap.size) (hn : n ≤ 8) (_x0 : 0 ≤ x) (_x1 : x < 18446744073709551616) (hl : l.length ≤ 100000) :
    Calls Tryz.prog 178 #[v, .int .i64 n, .int .u64 x] w (PutPost base w (l ++ putB n x)) := by
  obtain ⟨i0, hi0, hz0, hz1, hz2⟩ := info_parts Tryz.infoU8
  have HI0 := Lib.hid hi0
  have HZ0 := Lib.hid hz0
  have HZ1 := Lib.hid hz1
  have HZ2 := Lib.hid hz2
  clear hi0 hz0 hz1 hz2
  have R0 : Hid (PutRel base w l n x n v l w) := Lib.hid ⟨h, Below.refl _ _, rfl, rfl⟩
  have HBS := Lib.hid hbs
  clear h hbs
  go_enter Tryz.func178, Tryz.ntmps178
  go_wp2_with fail
  go_loopw [0, 7] (fun v i wr => ∃ (L : List Int) (rem : Nat), PutRel base w l n x rem v L wr ∧ rem ≤ n ∧ ((i = .int .i64 (-1) ∧ rem = 0) ∨ ∃ j : Nat, i = .int .i64 j ∧ rem = j + 1)) (fun _ i _ => (intOf i + 1).toNat)
  case atStart =>
    refine ⟨l, n, R0.out, Nat.le_refl _, ?_⟩
    cases n with
    | zero => exact .inl ⟨rfl, rfl⟩
    | succ n => exact .inr ⟨n, by go_num, rfl⟩
  case round =>
    clear R0
    obtain ⟨L, rem, R, hr, ⟨rfl, rfl⟩ | ⟨j, rfl, rfl⟩⟩ := hrel
    · have RR := Lib.hid R
      clear R
      go_wp2_with fail
      go_ret
      refine ⟨_, rfl, ?_, RR.out.bel⟩
      have e := RR.out.eq
      rw [show putB 0 x = [] from rfl, List.append_nil] at e
      rw [← e]; exact RR.out.own
    · have RR := Lib.hid R
      clear R
      have hj : j < 8 := by omega
      have B3 : Below wr.heap.size wr (wr.alloc (.cells #[.int .u8 (x / 2 ^ (8 * j) % 256)] 5)) := (Below.refl _ _).alloc (Nat.le_refl _) _
      have OW := Lib.hid (RR.out.own.below B3)
      have SL : Hid (SlV 1 (wr.alloc (.cells #[.int .u8 (x / 2 ^ (8 * j) % 256)] 5)) (.slice (some ⟨wr.heap.size, 0, none⟩) 1 1) [byE (x / 2 ^ (8 * j) % 256)]) := Lib.hid (sl_one (vals := byE (x / 2 ^ (8 * j) % 256)))
      have K1 : Hid (L.length + [byE (x / 2 ^ (8 * j) % 256)].length ≤ maxLen) := Lib.hid (by have := RR.out.len; simp only [List.length_singleton]; unfold maxLen; omega)
      have K2 : Hid ((L.length + [byE (x / 2 ^ (8 * j) % 256)].length) * 1 ≤ 140737488355328) := Lib.hid (by have := RR.out.len; simp only [List.length_singleton]; omega)
      have BS : Hid (base ≤ (wr.alloc (.cells #[.int .u8 (x / 2 ^ (8 * j) % 256)] 5)).heap.size) := Lib.hid (Nat.le_trans HBS.out (Nat.le_trans RR.out.bel.size B3.size))
      have STEP := Lib.hid (fun v' w4 own' hg4 => RR.out.step (v' := v') (w4 := w4) HBS.out B3 own' hg4)
      clear B3
      go_wp2_with (at_builtin; refine wpList_append_sl rfl _ _ _ rfl base 5 i0 _ 1 1 Tryz.underlying193 HI0.out HZ0.out HZ1.out HZ2.out rfl (by decide) _ L.length _ rfl OW.out _ [byE (x / 2 ^ (8 * j) % 256)] rfl SL.out (byE_len [_]) (byE_one [_]) K1.out K2.out BS.out ?_; intro v' w4 own' hg4; have NX := Lib.hid (STEP.out v' w4 own' hg4); clear own' hg4)
      cases j with
      | zero =>
        go_roundw
        case rel => exact ⟨_, 0, NX.out, by omega, .inl ⟨by go_num, rfl⟩⟩
        case measure => simp [intOf]
      | succ j =>
        go_roundw
        case rel => exact ⟨_, j + 1, NX.out, by omega, .inr ⟨j, by go_num, rfl⟩⟩
        case measure => simp [intOf]; omega

end Go.Proofs.YtogdconliofblaaGreat

namespace Go.Proofs.YtogdconliofblaaGreat
open Go.RowKit

theorem own_base {base base' : Nat} {w : World} {v : Value} {l : List Int} (h : BytesOwn base w v l) (hb : base' ≤ base) : BytesOwn base' w v l := by
  refine ⟨h.1, ?_⟩
  rcases h.2 with h | ⟨g, cap, cur, h1, h2, h3⟩
  · exact .inl h
  · exact .inr ⟨g, cap, cur, h1, Nat.le_trans hb h2, h3⟩

/-- the fields of an advertisement lie in their ranges -/
structure OkH (x : Lsa) : Prop where
  t0 : 0 ≤ x.typ
  t1 : x.typ ≤ 5
  l0 : 0 ≤ x.len
  l1 : x.len ≤ 32
  s0 : 0 ≤ x.seq
  s1 : x.seq ≤ 2147483647
  a0 : 0 ≤ x.age
  a1 : x.age ≤ 3600
  u0 : 0 ≤ x.sum
  u1 : x.sum ≤ 65535
  c0 : 0 ≤ x.cost
  c1 : x.cost ≤ 16777216
  g0 : 0 ≤ x.tag
  g1 : x.tag ≤ 4294967295

def hdrB (x : Lsa) : List Int := putB 2 x.age ++ putB 1 x.typ ++ putB 1 x.len ++ putB 4 x.id ++ putB 4 x.router ++ putB 4 x.seq ++ putB 2 x.sum

theorem hdrB_len (x : Lsa) : (hdrB x).length = 18 := by simp [hdrB, putB_len]

set_option maxHeartbeats 4000000 in
set_option maxRecDepth 100000 in
theorem header_calls (x : Lsa) (ok : OkL x) (oh : OkH x) (w : World) : Calls Tryz.prog 179 #[.agg (hdE x.typ x.id x.len x.router x.seq x.age x.sum).toArray] w (PutPost w.heap.size w (hdrB x)) := by
  obtain ⟨i0, i1, r0, r1, -, -⟩ := ok
  obtain ⟨t0, t1, l0, l1, s0, s1, a0, a1, u0, u1, -, -, -, -⟩ := oh
  unfold hdrB
  obtain ⟨typ, id, len, router, seq, age, sum, border, boundary, la, ln, lc, aa, an, ac, cost, second, fwd, tag⟩ := x
  simp only [hdE] at *
  obtain ⟨W, hW⟩ : ∃ W, w.alloc (.cells #[.int .i64 typ, .int .u32 id, .int .i64 len, .int .u32 router, .int .i64 seq, .int .i64 age, .int .i64 sum] 42) = W := ⟨_, rfl⟩
  have hs : W.heap.size = w.heap.size + 1 := by rw [← hW]; simp
  have B0 : Below w.heap.size w W := by rw [← hW]; exact (Below.refl _ _).alloc (Nat.le_refl _) _
  have bx : W.heap[w.heap.size]? = some (.cells #[.int .i64 typ, .int .u32 id, .int .i64 len, .int .u32 router, .int .i64 seq, .int .i64 age, .int .i64 sum] 42 (0, 0)) := by rw [← hW]; exact alloc_new _ _
  have HW := Lib.hid hW
  have HB0 := Lib.hid B0
  have HBX := Lib.hid bx
  have HS := Lib.hid hs
  clear hW B0 bx hs
  go_enter Tryz.func179, Tryz.ntmps179
  go_wp2_with fail
  rw [HW.out]
  have C0 := Lib.hid (put_calls W.heap.size W (.slice none 0 0) [] 2 age (World.ownsRow_nil _ _ _ _) (Nat.le_refl _) (by omega) (by omega) (by omega) (by simp))
  refine C0.out.mono ?_
  rintro e w1 ⟨v1, rfl, O1, BB1⟩
  have O1 : BytesOwn W.heap.size w1 v1 (putB 2 age) := O1
  have B1 : Below W.heap.size W w1 := BB1
  have OH1 := Lib.hid O1
  have B1h := Lib.hid B1
  have C1 := Lib.hid (put_calls W.heap.size w1 v1 (putB 2 age) 1 typ OH1.out B1h.out.size (by omega) (by omega) (by omega) (by simp [putB_len]))
  have c1 : w1.cell? ⟨w.heap.size, 0, none⟩ = some (.int .i64 typ) := blk_cell ((B1h.out.block w.heap.size (by have := HS.out; omega)).trans HBX.out) rfl
  clear O1 B1 BB1 C0
  go_wp2_with fail
  refine C1.out.mono ?_
  rintro e w2 ⟨v2, rfl, O2, BB2⟩
  have B2 : Below W.heap.size W w2 := B1h.out.trans BB2
  have OH2 := Lib.hid O2
  have B2h := Lib.hid B2
  have C2 := Lib.hid (put_calls W.heap.size w2 v2 (putB 2 age ++ putB 1 typ) 1 len OH2.out B2h.out.size (by omega) (by omega) (by omega) (by simp [putB_len]))
  have c2 : w2.cell? ⟨w.heap.size, 2, none⟩ = some (.int .i64 len) := blk_cell ((B2h.out.block w.heap.size (by have := HS.out; omega)).trans HBX.out) rfl
  clear O2 B2 BB2 C1 c1 OH1
  go_wp2_with fail
  refine C2.out.mono ?_
  rintro e w3 ⟨v3, rfl, O3, BB3⟩
  have B3 : Below W.heap.size W w3 := B2h.out.trans BB3
  have OH3 := Lib.hid O3
  have B3h := Lib.hid B3
  have C3 := Lib.hid (put_calls W.heap.size w3 v3 (putB 2 age ++ putB 1 typ ++ putB 1 len) 4 id OH3.out B3h.out.size (by omega) (by omega) (by omega) (by simp [putB_len]))
  have c3 : w3.cell? ⟨w.heap.size, 1, none⟩ = some (.int .u32 id) := blk_cell ((B3h.out.block w.heap.size (by have := HS.out; omega)).trans HBX.out) rfl
  clear O3 B3 BB3 C2 c2 OH2
  go_wp2_with fail
  refine C3.out.mono ?_
  rintro e w4 ⟨v4, rfl, O4, BB4⟩
  have B4 : Below W.heap.size W w4 := B3h.out.trans BB4
  have OH4 := Lib.hid O4
  have B4h := Lib.hid B4
  have C4 := Lib.hid (put_calls W.heap.size w4 v4 (putB 2 age ++ putB 1 typ ++ putB 1 len ++ putB 4 id) 4 router OH4.out B4h.out.size (by omega) (by omega) (by omega) (by simp [putB_len]))
  have c4 : w4.cell? ⟨w.heap.size, 3, none⟩ = some (.int .u32 router) := blk_cell ((B4h.out.block w.heap.size (by have := HS.out; omega)).trans HBX.out) rfl
  clear O4 B4 BB4 C3 c3 OH3
  go_wp2_with fail
  refine C4.out.mono ?_
  rintro e w5 ⟨v5, rfl, O5, BB5⟩
  have B5 : Below W.heap.size W w5 := B4h.out.trans BB5
  have OH5 := Lib.hid O5
  have B5h := Lib.hid B5
  have C5 := Lib.hid (put_calls W.heap.size w5 v5 (putB 2 age ++ putB 1 typ ++ putB 1 len ++ putB 4 id ++ putB 4 router) 4 seq OH5.out B5h.out.size (by omega) (by omega) (by omega) (by simp [putB_len]))
  have c5 : w5.cell? ⟨w.heap.size, 4, none⟩ = some (.int .i64 seq) := blk_cell ((B5h.out.block w.heap.size (by have := HS.out; omega)).trans HBX.out) rfl
  clear O5 B5 BB5 C4 c4 OH4
  go_wp2_with fail
  refine C5.out.mono ?_
  rintro e w6 ⟨v6, rfl, O6, BB6⟩
  have B6 : Below W.heap.size W w6 := B5h.out.trans BB6
  have OH6 := Lib.hid O6
  have B6h := Lib.hid B6
  have C6 := Lib.hid (put_calls W.heap.size w6 v6 (putB 2 age ++ putB 1 typ ++ putB 1 len ++ putB 4 id ++ putB 4 router ++ putB 4 seq) 2 sum OH6.out B6h.out.size (by omega) (by omega) (by omega) (by simp [putB_len]))
  have c6 : w6.cell? ⟨w.heap.size, 6, none⟩ = some (.int .i64 sum) := blk_cell ((B6h.out.block w.heap.size (by have := HS.out; omega)).trans HBX.out) rfl
  clear O6 B6 BB6 C5 c5 OH5
  go_wp2_with fail
  refine C6.out.mono ?_
  rintro e w7 ⟨v7, rfl, O7, BB7⟩
  have B7 : Below W.heap.size W w7 := B6h.out.trans BB7
  have FIN : Hid (PutPost w.heap.size w (putB 2 age ++ putB 1 typ ++ putB 1 len ++ putB 4 id ++ putB 4 router ++ putB 4 seq ++ putB 2 sum) (.returned v7) w7) := Lib.hid (by
    refine ⟨v7, rfl, ?_, HB0.out.trans (B7.mono (by have := HS.out; omega))⟩
    exact own_base O7 (by have := HS.out; omega))
  clear O7 B7 BB7 C6 c6 OH6
  go_wp2_with fail
  go_ret
  exact FIN.out

end Go.Proofs.YtogdconliofblaaGreat
