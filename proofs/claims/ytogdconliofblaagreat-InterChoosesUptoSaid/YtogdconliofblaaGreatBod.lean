/-
  routingref23: flags, Body of summaries, boundaries and external advertisements.
-/
/-
  routingref23.Bytes, routingref04.Sums.
-/
import Derived.Test.YtogdconliofblaaGreatPut
namespace Go.Proofs.YtogdconliofblaaGreat
open Go.RowKit

def flagsP (a b : Bool) : Int := (if a then 1 else 0) + (if b then 2 else 0)

set_option maxHeartbeats 1000000 in
theorem flags_calls (a b : Bool) (w : World) : Calls Tryz.prog 192 #[.bool a, .bool b] w fun e w' => e = .returned (.int .u64 (flagsP a b)) ∧ w = w' := by
  cases a <;> cases b <;>
    (go_enter Tryz.func192, Tryz.ntmps192
     go_wp2_with fail
     go_ret
     exact ⟨rfl, rfl⟩)

def bodyB (x : Lsa) : List Int := if x.typ = 5 then putB 1 (flagsP x.second false) ++ putB 4 x.cost ++ putB 4 x.fwd ++ putB 4 x.tag else putB 4 x.cost
theorem bodyB_len (x : Lsa) : (bodyB x).length = if x.typ = 5 then 13 else 4 := by unfold bodyB; split <;> simp [putB_len]

set_option maxHeartbeats 4000000 in
set_option maxRecDepth 100000 in
theorem body_calls5 (x : Lsa) (ok : OkL x) (oh : OkH x) (ht : x.typ = 5) (w : World) : Calls Tryz.prog 177 #[.agg (lsaE x).toArray] w (PutPost w.heap.size w (bodyB x)) := by
  obtain ⟨i0, i1, r0, r1, f0, f1⟩ := ok
  obtain ⟨-, -, l0, l1, s0, s1, a0, a1, u0, u1, k0, k1, g0, g1⟩ := oh
  unfold bodyB
  obtain ⟨typ, id, len, router, seq, age, sum, border, boundary, la, ln, lc, aa, an, ac, cost, second, fwd, tag⟩ := x
  simp only [lsaE] at *
  subst ht
  simp only [if_true]
  obtain ⟨W, hW⟩ : ∃ W, (w.alloc (.cells #[.int .i64 5, .int .u32 id, .int .i64 len, .int .u32 router, .int .i64 seq, .int .i64 age, .int .i64 sum, .bool border, .bool boundary, .slice la ln lc, .slice aa an ac, .int .i64 cost, .bool second, .int .u32 fwd, .int .i64 tag] 47)).alloc (.cells #[] 5) = W := ⟨_, rfl⟩
  have hs : W.heap.size = w.heap.size + 2 := by rw [← hW]; simp
  have B0 : Below w.heap.size w W := by rw [← hW]; exact ((Below.refl _ _).alloc (Nat.le_refl _) _).alloc (by simp) _
  have bx : W.heap[w.heap.size]? = some (.cells #[.int .i64 5, .int .u32 id, .int .i64 len, .int .u32 router, .int .i64 seq, .int .i64 age, .int .i64 sum, .bool border, .bool boundary, .slice la ln lc, .slice aa an ac, .int .i64 cost, .bool second, .int .u32 fwd, .int .i64 tag] 47 (0, 0)) := by rw [← hW]; exact (alloc_get _ _ _ (by simp)).trans (alloc_new _ _)
  have O0 : Hid (BytesOwn (w.heap.size + 1) W (.slice (some ⟨w.heap.size + 1, 0, none⟩) 0 0) []) := Lib.hid (by
    rw [← hW]
    have := World.ownsRow_made (size := 1) (e := 5) (base := w.heap.size + 1) (w.alloc (.cells #[.int .i64 5, .int .u32 id, .int .i64 len, .int .u32 router, .int .i64 seq, .int .i64 age, .int .i64 sum, .bool border, .bool boundary, .slice la ln lc, .slice aa an ac, .int .i64 cost, .bool second, .int .u32 fwd, .int .i64 tag] 47)) #[] 0 (by simp) (by unfold maxLen; omega) rfl
    simpa [BytesOwn] using this)
  have FL := Lib.hid (fun W => flags_calls second false W)
  have hfl : 0 ≤ flagsP second false ∧ flagsP second false < 18446744073709551616 := by cases second <;> decide
  obtain ⟨hf0, hf1⟩ := hfl
  generalize flagsP second false = fl at *
  have HW := Lib.hid hW
  have HB0 := Lib.hid B0
  have HBX := Lib.hid bx
  have HS := Lib.hid hs
  clear hW B0 bx hs
  have e12 : W.cell? ⟨w.heap.size, 12, none⟩ = some (.bool second) := blk_cell HBX.out rfl
  have e11 : W.cell? ⟨w.heap.size, 11, none⟩ = some (.int .i64 cost) := blk_cell HBX.out rfl
  go_enter Tryz.func177, Tryz.ntmps177
  go_wp2_with fail
  refine (FL.out _).mono ?_
  rintro e w0 ⟨rfl, rfl⟩
  go_wp2_with fail
  rw [HW.out]
  have C0 := Lib.hid (put_calls (w.heap.size + 1) W (.slice (some ⟨w.heap.size + 1, 0, none⟩) 0 0) [] 1 fl O0.out (by have := HS.out; omega) (by omega) (by omega) (by omega) (by simp))
  refine C0.out.mono ?_
  rintro e w1 ⟨v1, rfl, O1, BB1⟩
  have O1 : BytesOwn (w.heap.size + 1) w1 v1 (putB 1 fl) := O1
  have B1 : Below (w.heap.size + 1) W w1 := BB1
  have OH1 := Lib.hid O1
  have B1h := Lib.hid B1
  have C1 := Lib.hid (put_calls (w.heap.size + 1) w1 v1 (putB 1 fl) 4 cost OH1.out (by have := B1h.out.size; have := HS.out; omega) (by omega) (by omega) (by omega) (by simp [putB_len]))
  have c1 : w1.cell? ⟨w.heap.size, 11, none⟩ = some (.int .i64 cost) := blk_cell ((B1h.out.block w.heap.size (by omega)).trans HBX.out) rfl
  clear O1 B1 BB1 C0
  go_wp2_with fail
  refine C1.out.mono ?_
  rintro e w2 ⟨v2, rfl, O2, BB2⟩
  have B2 : Below (w.heap.size + 1) W w2 := B1h.out.trans BB2
  have OH2 := Lib.hid O2
  have B2h := Lib.hid B2
  have C2 := Lib.hid (put_calls (w.heap.size + 1) w2 v2 (putB 1 fl ++ putB 4 cost) 4 fwd OH2.out (by have := B2h.out.size; have := HS.out; omega) (by omega) (by omega) (by omega) (by simp [putB_len]))
  have c2 : w2.cell? ⟨w.heap.size, 13, none⟩ = some (.int .u32 fwd) := blk_cell ((B2h.out.block w.heap.size (by omega)).trans HBX.out) rfl
  clear O2 B2 BB2 C1 c1 OH1
  go_wp2_with fail
  refine C2.out.mono ?_
  rintro e w3 ⟨v3, rfl, O3, BB3⟩
  have B3 : Below (w.heap.size + 1) W w3 := B2h.out.trans BB3
  have OH3 := Lib.hid O3
  have B3h := Lib.hid B3
  have C3 := Lib.hid (put_calls (w.heap.size + 1) w3 v3 (putB 1 fl ++ putB 4 cost ++ putB 4 fwd) 4 tag OH3.out (by have := B3h.out.size; have := HS.out; omega) (by omega) (by omega) (by omega) (by simp [putB_len]))
  have c3 : w3.cell? ⟨w.heap.size, 14, none⟩ = some (.int .i64 tag) := blk_cell ((B3h.out.block w.heap.size (by omega)).trans HBX.out) rfl
  clear O3 B3 BB3 C2 c2 OH2
  go_wp2_with fail
  refine C3.out.mono ?_
  rintro e w4 ⟨v4, rfl, O4, BB4⟩
  have B4 : Below (w.heap.size + 1) W w4 := B3h.out.trans BB4
  have FIN : Hid (PutPost w.heap.size w (putB 1 fl ++ putB 4 cost ++ putB 4 fwd ++ putB 4 tag) (.returned v4) w4) := Lib.hid (by
    refine ⟨v4, rfl, ?_, HB0.out.trans (B4.mono (by omega))⟩
    exact own_base O4 (by omega))
  clear O4 B4 BB4 C3 c3 OH3
  go_wp2_with fail
  go_ret
  exact FIN.out

set_option maxHeartbeats 4000000 in
set_option maxRecDepth 100000 in
theorem body_calls3 (x : Lsa) (ok : OkL x) (oh : OkH x) (ht : x.typ = 3) (w : World) : Calls Tryz.prog 177 #[.agg (lsaE x).toArray] w (PutPost w.heap.size w (bodyB x)) := by
  obtain ⟨i0, i1, r0, r1, f0, f1⟩ := ok
  obtain ⟨-, -, l0, l1, s0, s1, a0, a1, u0, u1, k0, k1, g0, g1⟩ := oh
  unfold bodyB
  obtain ⟨typ, id, len, router, seq, age, sum, border, boundary, la, ln, lc, aa, an, ac, cost, second, fwd, tag⟩ := x
  simp only [lsaE] at *
  subst ht
  simp only [show ¬ (3 : Int) = 5 from by omega, if_false]
  obtain ⟨W, hW⟩ : ∃ W, (w.alloc (.cells #[.int .i64 3, .int .u32 id, .int .i64 len, .int .u32 router, .int .i64 seq, .int .i64 age, .int .i64 sum, .bool border, .bool boundary, .slice la ln lc, .slice aa an ac, .int .i64 cost, .bool second, .int .u32 fwd, .int .i64 tag] 47)).alloc (.cells #[] 5) = W := ⟨_, rfl⟩
  have hs : W.heap.size = w.heap.size + 2 := by rw [← hW]; simp
  have B0 : Below w.heap.size w W := by rw [← hW]; exact ((Below.refl _ _).alloc (Nat.le_refl _) _).alloc (by simp) _
  have bx : W.heap[w.heap.size]? = some (.cells #[.int .i64 3, .int .u32 id, .int .i64 len, .int .u32 router, .int .i64 seq, .int .i64 age, .int .i64 sum, .bool border, .bool boundary, .slice la ln lc, .slice aa an ac, .int .i64 cost, .bool second, .int .u32 fwd, .int .i64 tag] 47 (0, 0)) := by rw [← hW]; exact (alloc_get _ _ _ (by simp)).trans (alloc_new _ _)
  have O0 : Hid (BytesOwn (w.heap.size + 1) W (.slice (some ⟨w.heap.size + 1, 0, none⟩) 0 0) []) := Lib.hid (by
    rw [← hW]
    have := World.ownsRow_made (size := 1) (e := 5) (base := w.heap.size + 1) (w.alloc (.cells #[.int .i64 3, .int .u32 id, .int .i64 len, .int .u32 router, .int .i64 seq, .int .i64 age, .int .i64 sum, .bool border, .bool boundary, .slice la ln lc, .slice aa an ac, .int .i64 cost, .bool second, .int .u32 fwd, .int .i64 tag] 47)) #[] 0 (by simp) (by unfold maxLen; omega) rfl
    simpa [BytesOwn] using this)
  have FL := Lib.hid (fun W => flags_calls second false W)
  have hfl : 0 ≤ flagsP second false ∧ flagsP second false < 18446744073709551616 := by cases second <;> decide
  obtain ⟨hf0, hf1⟩ := hfl
  generalize flagsP second false = fl at *
  have HW := Lib.hid hW
  have HB0 := Lib.hid B0
  have HBX := Lib.hid bx
  have HS := Lib.hid hs
  clear hW B0 bx hs
  have e12 : W.cell? ⟨w.heap.size, 12, none⟩ = some (.bool second) := blk_cell HBX.out rfl
  have e11 : W.cell? ⟨w.heap.size, 11, none⟩ = some (.int .i64 cost) := blk_cell HBX.out rfl
  go_enter Tryz.func177, Tryz.ntmps177
  go_wp2_with fail
  rw [HW.out]
  have C0 := Lib.hid (put_calls (w.heap.size + 1) W (.slice (some ⟨w.heap.size + 1, 0, none⟩) 0 0) [] 4 cost O0.out (by have := HS.out; omega) (by omega) (by omega) (by omega) (by simp))
  refine C0.out.mono ?_
  rintro e w1 ⟨v1, rfl, O1, BB1⟩
  have O1 : BytesOwn (w.heap.size + 1) w1 v1 (putB 4 cost) := O1
  have B1 : Below (w.heap.size + 1) W w1 := BB1
  have FIN : Hid (PutPost w.heap.size w (putB 4 cost) (.returned v1) w1) := Lib.hid (by
    refine ⟨v1, rfl, ?_, HB0.out.trans (B1.mono (by omega))⟩
    exact own_base O1 (by omega))
  clear O1 B1 BB1 C0
  go_wp2_with fail
  go_ret
  exact FIN.out

set_option maxHeartbeats 4000000 in
set_option maxRecDepth 100000 in
theorem body_calls4 (x : Lsa) (ok : OkL x) (oh : OkH x) (ht : x.typ = 4) (w : World) : Calls Tryz.prog 177 #[.agg (lsaE x).toArray] w (PutPost w.heap.size w (bodyB x)) := by
  obtain ⟨i0, i1, r0, r1, f0, f1⟩ := ok
  obtain ⟨-, -, l0, l1, s0, s1, a0, a1, u0, u1, k0, k1, g0, g1⟩ := oh
  unfold bodyB
  obtain ⟨typ, id, len, router, seq, age, sum, border, boundary, la, ln, lc, aa, an, ac, cost, second, fwd, tag⟩ := x
  simp only [lsaE] at *
  subst ht
  simp only [show ¬ (4 : Int) = 5 from by omega, if_false]
  obtain ⟨W, hW⟩ : ∃ W, (w.alloc (.cells #[.int .i64 4, .int .u32 id, .int .i64 len, .int .u32 router, .int .i64 seq, .int .i64 age, .int .i64 sum, .bool border, .bool boundary, .slice la ln lc, .slice aa an ac, .int .i64 cost, .bool second, .int .u32 fwd, .int .i64 tag] 47)).alloc (.cells #[] 5) = W := ⟨_, rfl⟩
  have hs : W.heap.size = w.heap.size + 2 := by rw [← hW]; simp
  have B0 : Below w.heap.size w W := by rw [← hW]; exact ((Below.refl _ _).alloc (Nat.le_refl _) _).alloc (by simp) _
  have bx : W.heap[w.heap.size]? = some (.cells #[.int .i64 4, .int .u32 id, .int .i64 len, .int .u32 router, .int .i64 seq, .int .i64 age, .int .i64 sum, .bool border, .bool boundary, .slice la ln lc, .slice aa an ac, .int .i64 cost, .bool second, .int .u32 fwd, .int .i64 tag] 47 (0, 0)) := by rw [← hW]; exact (alloc_get _ _ _ (by simp)).trans (alloc_new _ _)
  have O0 : Hid (BytesOwn (w.heap.size + 1) W (.slice (some ⟨w.heap.size + 1, 0, none⟩) 0 0) []) := Lib.hid (by
    rw [← hW]
    have := World.ownsRow_made (size := 1) (e := 5) (base := w.heap.size + 1) (w.alloc (.cells #[.int .i64 4, .int .u32 id, .int .i64 len, .int .u32 router, .int .i64 seq, .int .i64 age, .int .i64 sum, .bool border, .bool boundary, .slice la ln lc, .slice aa an ac, .int .i64 cost, .bool second, .int .u32 fwd, .int .i64 tag] 47)) #[] 0 (by simp) (by unfold maxLen; omega) rfl
    simpa [BytesOwn] using this)
  have FL := Lib.hid (fun W => flags_calls second false W)
  have hfl : 0 ≤ flagsP second false ∧ flagsP second false < 18446744073709551616 := by cases second <;> decide
  obtain ⟨hf0, hf1⟩ := hfl
  generalize flagsP second false = fl at *
  have HW := Lib.hid hW
  have HB0 := Lib.hid B0
  have HBX := Lib.hid bx
  have HS := Lib.hid hs
  clear hW B0 bx hs
  have e12 : W.cell? ⟨w.heap.size, 12, none⟩ = some (.bool second) := blk_cell HBX.out rfl
  have e11 : W.cell? ⟨w.heap.size, 11, none⟩ = some (.int .i64 cost) := blk_cell HBX.out rfl
  go_enter Tryz.func177, Tryz.ntmps177
  go_wp2_with fail
  rw [HW.out]
  have C0 := Lib.hid (put_calls (w.heap.size + 1) W (.slice (some ⟨w.heap.size + 1, 0, none⟩) 0 0) [] 4 cost O0.out (by have := HS.out; omega) (by omega) (by omega) (by omega) (by simp))
  refine C0.out.mono ?_
  rintro e w1 ⟨v1, rfl, O1, BB1⟩
  have O1 : BytesOwn (w.heap.size + 1) w1 v1 (putB 4 cost) := O1
  have B1 : Below (w.heap.size + 1) W w1 := BB1
  have FIN : Hid (PutPost w.heap.size w (putB 4 cost) (.returned v1) w1) := Lib.hid (by
    refine ⟨v1, rfl, ?_, HB0.out.trans (B1.mono (by omega))⟩
    exact own_base O1 (by omega))
  clear O1 B1 BB1 C0
  go_wp2_with fail
  go_ret
  exact FIN.out

theorem body_calls (x : Lsa) (ok : OkL x) (oh : OkH x) (ht : x.typ = 3 ∨ x.typ = 4 ∨ x.typ = 5) (w : World) : Calls Tryz.prog 177 #[.agg (lsaE x).toArray] w (PutPost w.heap.size w (bodyB x)) := by
  rcases ht with h | h | h
  · exact body_calls3 x ok oh h w
  · exact body_calls4 x ok oh h w
  · exact body_calls5 x ok oh h w

end Go.Proofs.YtogdconliofblaaGreat

namespace Go.Proofs.YtogdconliofblaaGreat
open Go.RowKit

def bytesB (x : Lsa) : List Int := hdrB x ++ putB 2 (bodyB x).length ++ bodyB x
theorem bytesB_len (x : Lsa) : (bytesB x).length = 20 + (bodyB x).length := by simp [bytesB, hdrB_len, putB_len]; omega

theorem putB_range (n : Nat) (x : Int) : ∀ b ∈ putB n x, 0 ≤ b ∧ b < 256 := by
  induction n with
  | zero => intro b hb; simp [putB] at hb
  | succ n ih =>
    intro b hb
    rcases List.mem_cons.1 hb with rfl | hb
    · exact ⟨by omega, by omega⟩
    · exact ih b hb
theorem bytesB_range (x : Lsa) : ∀ b ∈ bytesB x, 0 ≤ b ∧ b < 256 := by
  unfold bytesB hdrB bodyB
  split <;> simp only [List.forall_mem_append] <;> (repeat' apply And.intro) <;> exact putB_range _ _

theorem BytesAt.get {w : World} {v : Value} {l : List Int} (h : BytesAt w v l) : ∃ a cap, v = .slice a l.length cap ∧ l.length ≤ cap ∧ cap ≤ maxLen ∧ (a = none → cap = 0) ∧ (0 < l.length → ∃ b off, a = some ⟨b, off, none⟩ ∧ b < w.heap.size ∧ ∀ i (h : i < l.length), w.cell? ⟨b, off + i, none⟩ = some (.int .u8 l[i])) := by
  obtain ⟨a, cap, h0, h1, h2, hn, h3⟩ := h
  simp only [List.length_map] at h0 h1 h3
  refine ⟨a, cap, h0, h1, h2, hn, fun hl => ?_⟩
  obtain ⟨b, off, e, h4, h5⟩ := h3 hl
  refine ⟨b, off, e, h4, fun i hi => ?_⟩
  have := h5 i (by simpa using hi)
  simp only [List.getElem_map, byE] at this
  have := this 0 _ rfl
  simpa using this

set_option maxHeartbeats 4000000 in
set_option maxRecDepth 100000 in
theorem bytes_calls (x : Lsa) (ok : OkL x) (oh : OkH x) (ht : x.typ = 3 ∨ x.typ = 4 ∨ x.typ = 5) (w : World) : Calls Tryz.prog 143 #[.agg (lsaE x).toArray] w (PutPost w.heap.size w (bytesB x)) := by
  obtain ⟨i0', hi0, hz0, hz1, hz2⟩ := info_parts Tryz.infoU8
  have HI0 := Lib.hid hi0
  have HZ0 := Lib.hid hz0
  have HZ1 := Lib.hid hz1
  have HZ2 := Lib.hid hz2
  clear hi0 hz0 hz1 hz2
  have BC := Lib.hid (fun W => body_calls x ok oh ht W)
  have HC := Lib.hid (fun W => header_calls x ok oh W)
  have BL : (bodyB x).length ≤ 13 := by rw [bodyB_len]; split <;> omega
  have HLN := hdrB_len x
  unfold bytesB
  clear ok oh ht
  generalize bodyB x = bb at *
  generalize hdrB x = hh at *
  have HLNh := Lib.hid HLN
  clear HLN
  obtain ⟨typ, id, len, router, seq, age, sum, border, boundary, la, ln, lc, aa, an, ac, cost, second, fwd, tag⟩ := x
  simp only [lsaE, hdE] at *
  obtain ⟨W, hW⟩ : ∃ W, w.alloc (.cells #[.int .i64 typ, .int .u32 id, .int .i64 len, .int .u32 router, .int .i64 seq, .int .i64 age, .int .i64 sum, .bool border, .bool boundary, .slice la ln lc, .slice aa an ac, .int .i64 cost, .bool second, .int .u32 fwd, .int .i64 tag] 47) = W := ⟨_, rfl⟩
  have hs : W.heap.size = w.heap.size + 1 := by rw [← hW]; simp
  have B0 : Below w.heap.size w W := by rw [← hW]; exact (Below.refl _ _).alloc (Nat.le_refl _) _
  have bx : W.heap[w.heap.size]? = some (.cells #[.int .i64 typ, .int .u32 id, .int .i64 len, .int .u32 router, .int .i64 seq, .int .i64 age, .int .i64 sum, .bool border, .bool boundary, .slice la ln lc, .slice aa an ac, .int .i64 cost, .bool second, .int .u32 fwd, .int .i64 tag] 47 (0, 0)) := by rw [← hW]; exact alloc_new _ _
  have HW := Lib.hid hW
  have HB0 := Lib.hid B0
  have HBX := Lib.hid bx
  have HS := Lib.hid hs
  clear hW B0 bx hs
  go_enter Tryz.func143, Tryz.ntmps143
  go_wp2_with fail
  rw [HW.out]
  refine (BC.out _).mono ?_
  rintro e w1 ⟨v1, rfl, O1, B1⟩
  have b1 := (B1.block w.heap.size (by have := HS.out; omega)).trans HBX.out
  obtain ⟨⟨⟨e0, e1, e2, e3, e4⟩, ⟨e5, e6, e7, e8, e9⟩, ⟨e10, e11, e12, e13, e14⟩⟩, -⟩ := blk15 b1
  obtain ⟨a1, c1, ev, k1, k2, -⟩ := O1.at.get
  subst ev
  have HO1 := Lib.hid O1
  have HB1 := Lib.hid B1
  clear O1 B1 BC b1 k1 k2
  go_wp2_with fail
  refine (HC.out _).mono ?_
  rintro e w2 ⟨v2, rfl, O2, B2⟩
  have C2 := Lib.hid (put_calls w1.heap.size w2 v2 hh 2 (bb.length : Nat) O2 B2.size (by omega) (by omega) (by omega) (by have := HLNh.out; omega))
  have HB2 := Lib.hid B2
  clear O2 B2 HC e0 e1 e2 e3 e4 e5 e6 e7 e8 e9 e10 e11 e12 e13 e14
  go_wp2_with fail
  refine C2.out.mono ?_
  rintro e w3 ⟨v3, rfl, O3, B3⟩
  have HB3 := Lib.hid (HB2.out.trans B3)
  have HO3 := Lib.hid O3
  have SB : Hid (SlV 1 w3 (.slice a1 bb.length c1) (bb.map byE)) := Lib.hid ((HO1.out.at).below HB3.out)
  have K1 : Hid ((hh ++ putB 2 (bb.length : Nat)).length + (bb.map byE).length ≤ maxLen) := Lib.hid (by have := HLNh.out; simp [putB_len]; unfold maxLen; omega)
  have K2 : Hid (((hh ++ putB 2 (bb.length : Nat)).length + (bb.map byE).length) * 1 ≤ 140737488355328) := Lib.hid (by have := HLNh.out; simp [putB_len]; omega)
  have FIN : Hid (∀ v4 w4, w4.ownsRow w1.heap.size 5 1 v4 ((hh ++ putB 2 (bb.length : Nat)).length + (bb.map byE).length) (((hh ++ putB 2 (bb.length : Nat)).map byE).flatten ++ (bb.map byE).flatten) → w3.grownBy w4 v3.ownBlock → PutPost w.heap.size w (hh ++ putB 2 (bb.length : Nat) ++ bb) (.returned v4) w4) := Lib.hid (by
    intro v4 w4 O4 G4
    have hB4 : Below w1.heap.size w1 w4 := HB3.out.grown G4 HB3.out.size (fun j hj => (HO3.out.lt j hj).1)
    have h1 := HB1.out.size
    have h0 := HS.out
    refine ⟨v4, rfl, ?_, HB0.out.trans ((HB1.out.trans (hB4.mono h1)).mono (by omega))⟩
    refine own_base (base := w1.heap.size) ?_ (by omega)
    unfold BytesOwn
    have e1 : (hh ++ putB 2 (bb.length : Nat) ++ bb).length = (hh ++ putB 2 (bb.length : Nat)).length + (bb.map byE).length := by simp; omega
    have e2 : ((hh ++ putB 2 (bb.length : Nat) ++ bb).map byE).flatten = ((hh ++ putB 2 (bb.length : Nat)).map byE).flatten ++ (bb.map byE).flatten := by simp
    rw [e1, e2]; exact O4)
  clear O3 B3 C2 HB2
  go_wp2_with (at_builtin; refine wpList_append_sl rfl _ _ _ rfl w1.heap.size 5 i0' _ 1 1 Tryz.underlying193 HI0.out HZ0.out HZ1.out HZ2.out rfl (by decide) _ (hh ++ putB 2 (bb.length : Nat)).length _ rfl HO3.out _ (bb.map byE) rfl SB.out (byE_len bb) (byE_one bb) K1.out K2.out HB3.out.size ?_; intro v4 w4 O4 G4; have PO := Lib.hid (FIN.out v4 w4 O4 G4); clear O4 G4)
  go_ret
  exact PO.out

def SumsPost (w : World) (e : Ending) (w' : World) : Prop := ∃ s t : Int, e = .returned (.tuple #[.int .i64 s, .int .i64 t]) ∧ 0 ≤ s ∧ s < 255 ∧ 0 ≤ t ∧ t < 255 ∧ w = w'

set_option maxHeartbeats 2000000 in
theorem sums_calls (w : World) (v : Value) (l : List Int) (h : BytesAt w v l) (hr : ∀ b ∈ l, 0 ≤ b ∧ b < 256) (hl : l.length ≤ 1000000) : Calls Tryz.prog 175 #[v] w (SumsPost w) := by
  obtain ⟨a, cap, rfl, -, -, -, hc⟩ := h.get
  have HC := Lib.hid hc
  have HR := Lib.hid hr
  clear h hc hr
  go_enter Tryz.func175, Tryz.ntmps175
  go_wp2_with fail
  go_loop [4, 5, 6] (fun s t i => ∃ (k : Nat) (x y : Int), s = .int .i64 x ∧ t = .int .i64 y ∧ i = .int .i64 k ∧ k ≤ l.length ∧ 0 ≤ x ∧ x < 255 ∧ 0 ≤ y ∧ y < 255) (fun _ _ i => l.length - (intOf i).toNat)
  case atStart => exact ⟨0, 0, 0, rfl, rfl, rfl, Nat.zero_le _, by omega, by omega, by omega, by omega⟩
  case round =>
    obtain ⟨k, x, y, rfl, rfl, rfl, hk, x0, x1, y0, y1⟩ := hrel
    by_cases c : k < l.length
    · obtain ⟨b, off, rfl, hb, hcc⟩ := HC.out (by omega)
      have d := hcc k c
      obtain ⟨r0, r1⟩ := HR.out l[k] (List.getElem_mem c)
      clear hcc
      generalize l[k] = z at *
      have m0 : 0 ≤ ((l.length : Int) - (k : Int)) % 255 := by omega
      have m1 : ((l.length : Int) - (k : Int)) % 255 < 255 := by omega
      generalize hm : ((l.length : Int) - (k : Int)) % 255 = m at m0 m1
      have p0 : 0 ≤ m * z := Int.mul_nonneg m0 r0
      have p1 : m * z ≤ 65025 := by
        have h1 : m * z ≤ 255 * z := Int.mul_le_mul_of_nonneg_right (by omega) r0
        omega
      go_wp2_with fail
      go_round
      case rel => exact ⟨k + 1, _, _, rfl, rfl, by go_num, c, by omega, by omega, by omega, by omega⟩
      case measure => simp [intOf]; omega
    · go_wp2_with fail
      go_ret2
      exact ⟨x, y, rfl, x0, x1, y0, y1, rfl⟩

end Go.Proofs.YtogdconliofblaaGreat
