import Derived.Test.YtddageahmgaigaaGreatPut
namespace Go.Proofs.YtddageahmgaigaaGreat
open Go.RowKit

def flagsP (a b : Bool) : Int := (if a then 1 else 0) + (if b then 2 else 0)

set_option maxHeartbeats 1000000 in
theorem flags_calls (a b : Bool) (w : World) : Calls Tryz.prog 168 #[.bool a, .bool b] w fun e w' => e = .returned (.int .u64 (flagsP a b)) ∧ w = w' := by
  cases a <;> cases b <;>
    (go_enter Tryz.func168, Tryz.ntmps168
     go_wp2_with fail
     go_ret
     exact ⟨rfl, rfl⟩)

def bodyB (x : Lsa) : List Int := if x.typ = 5 then putB 1 (flagsP x.second false) ++ putB 4 x.cost ++ putB 4 x.fwd ++ putB 4 x.tag else putB 4 x.cost
theorem bodyB_len (x : Lsa) : (bodyB x).length = if x.typ = 5 then 13 else 4 := by unfold bodyB; split <;> simp [putB_len]

set_option maxHeartbeats 4000000 in
set_option maxRecDepth 100000 in
theorem body_calls5 (x : Lsa) (ok : OkL x) (oh : OkH x) (ht : x.typ = 5) (w : World) : Calls Tryz.prog 140 #[.agg (lsaE x).toArray] w (PutPost w.heap.size w (bodyB x)) := by
  obtain ⟨i0, i1, r0, r1, f0, f1⟩ := ok
  obtain ⟨-, -, l0, l1, s0, s1, a0, a1, u0, u1, k0, k1, g0, g1⟩ := oh
  unfold bodyB
  obtain ⟨typ, id, len, router, seq, age, sum, border, boundary, la, ln, lc, aa, an, ac, cost, second, fwd, tag⟩ := x
  simp only [lsaE] at *
  subst ht
  simp only [if_true]
  obtain ⟨W, hW⟩ : ∃ W, (w.alloc (.cells #[.int .i64 5, .int .u32 id, .int .i64 len, .int .u32 router, .int .i64 seq, .int .i64 age, .int .i64 sum, .bool border, .bool boundary, .slice la ln lc, .slice aa an ac, .int .i64 cost, .bool second, .int .u32 fwd, .int .i64 tag] 42)).alloc (.cells #[] 5) = W := ⟨_, rfl⟩
  have hs : W.heap.size = w.heap.size + 2 := by rw [← hW]; simp
  have B0 : Below w.heap.size w W := by rw [← hW]; exact ((Below.refl _ _).alloc (Nat.le_refl _) _).alloc (by simp) _
  have bx : W.heap[w.heap.size]? = some (.cells #[.int .i64 5, .int .u32 id, .int .i64 len, .int .u32 router, .int .i64 seq, .int .i64 age, .int .i64 sum, .bool border, .bool boundary, .slice la ln lc, .slice aa an ac, .int .i64 cost, .bool second, .int .u32 fwd, .int .i64 tag] 42 (0, 0)) := by rw [← hW]; exact (alloc_get _ _ _ (by simp)).trans (alloc_new _ _)
  have O0 : Hid (BytesOwn (w.heap.size + 1) W (.slice (some ⟨w.heap.size + 1, 0, none⟩) 0 0) []) := Lib.hid (by
    rw [← hW]
    have := World.ownsRow_made (size := 1) (e := 5) (base := w.heap.size + 1) (w.alloc (.cells #[.int .i64 5, .int .u32 id, .int .i64 len, .int .u32 router, .int .i64 seq, .int .i64 age, .int .i64 sum, .bool border, .bool boundary, .slice la ln lc, .slice aa an ac, .int .i64 cost, .bool second, .int .u32 fwd, .int .i64 tag] 42)) #[] 0 (by simp) (by unfold maxLen; omega) rfl
    simpa [BytesOwn] using this)
  have FL := Lib.hid (fun W => flags_calls second false W)
  have hfl : 0 ≤ flagsP second false ∧ flagsP second false < 18446744073709551616 := by cases second <;> decide
  obtain ⟨hf0, hf1⟩ := hfl
  generalize flagsP second false = fl at *
  have HW := Lib.hid hW
  have HB0 := Lib.hid B0
  have HBX := Lib.hid bx
  have HS := Lib.hid hs
  clear hW B0 bx hs
  have e12 : W.cell? ⟨w.heap.size, 12, none⟩ = some (.bool second) := blk_cell HBX.out rfl
  have e11 : W.cell? ⟨w.heap.size, 11, none⟩ = some (.int .i64 cost) := blk_cell HBX.out rfl
  go_enter Tryz.func140, Tryz.ntmps140
  go_wp2_with fail
  refine (FL.out _).mono ?_
  rintro e w0 ⟨rfl, rfl⟩
  go_wp2_with fail
  rw [HW.out]
  have C0 := Lib.hid (put_calls (w.heap.size + 1) W (.slice (some ⟨w.heap.size + 1, 0, none⟩) 0 0) [] 1 fl O0.out (by have := HS.out; omega) (by omega) (by omega) (by omega) (by simp))
  refine C0.out.mono ?_
  rintro e w1 ⟨v1, rfl, O1, BB1⟩
  have O1 : BytesOwn (w.heap.size + 1) w1 v1 (putB 1 fl) := O1
  have B1 : Below (w.heap.size + 1) W w1 := BB1
  have OH1 := Lib.hid O1
  have B1h := Lib.hid B1
  have C1 := Lib.hid (put_calls (w.heap.size + 1) w1 v1 (putB 1 fl) 4 cost OH1.out (by have := B1h.out.size; have := HS.out; omega) (by omega) (by omega) (by omega) (by simp [putB_len]))
  have c1 : w1.cell? ⟨w.heap.size, 11, none⟩ = some (.int .i64 cost) := blk_cell ((B1h.out.block w.heap.size (by omega)).trans HBX.out) rfl
  clear O1 B1 BB1 C0
  go_wp2_with fail
  refine C1.out.mono ?_
  rintro e w2 ⟨v2, rfl, O2, BB2⟩
  have B2 : Below (w.heap.size + 1) W w2 := B1h.out.trans BB2
  have OH2 := Lib.hid O2
  have B2h := Lib.hid B2
  have C2 := Lib.hid (put_calls (w.heap.size + 1) w2 v2 (putB 1 fl ++ putB 4 cost) 4 fwd OH2.out (by have := B2h.out.size; have := HS.out; omega) (by omega) (by omega) (by omega) (by simp [putB_len]))
  have c2 : w2.cell? ⟨w.heap.size, 13, none⟩ = some (.int .u32 fwd) := blk_cell ((B2h.out.block w.heap.size (by omega)).trans HBX.out) rfl
  clear O2 B2 BB2 C1 c1 OH1
  go_wp2_with fail
  refine C2.out.mono ?_
  rintro e w3 ⟨v3, rfl, O3, BB3⟩
  have B3 : Below (w.heap.size + 1) W w3 := B2h.out.trans BB3
  have OH3 := Lib.hid O3
  have B3h := Lib.hid B3
  have C3 := Lib.hid (put_calls (w.heap.size + 1) w3 v3 (putB 1 fl ++ putB 4 cost ++ putB 4 fwd) 4 tag OH3.out (by have := B3h.out.size; have := HS.out; omega) (by omega) (by omega) (by omega) (by simp [putB_len]))
  have c3 : w3.cell? ⟨w.heap.size, 14, none⟩ = some (.int .i64 tag) := blk_cell ((B3h.out.block w.heap.size (by omega)).trans HBX.out) rfl
  clear O3 B3 BB3 C2 c2 OH2
  go_wp2_with fail
  refine C3.out.mono ?_
  rintro e w4 ⟨v4, rfl, O4, BB4⟩
  have B4 : Below (w.heap.size + 1) W w4 := B3h.out.trans BB4
  have FIN : Hid (PutPost w.heap.size w (putB 1 fl ++ putB 4 cost ++ putB 4 fwd ++ putB 4 tag) (.returned v4) w4) := Lib.hid (by
    refine ⟨v4, rfl, ?_, HB0.out.trans (B4.mono (by omega))⟩
    exact own_base O4 (by omega))
  clear O4 B4 BB4 C3 c3 OH3
  go_wp2_with fail
  go_ret
  exact FIN.out

set_option maxHeartbeats 4000000 in
set_option maxRecDepth 100000 in
theorem body_calls3 (x : Lsa) (ok : OkL x) (oh : OkH x) (ht : x.typ = 3) (w : World) : Calls Tryz.prog 140 #[.agg (lsaE x).toArray] w (PutPost w.heap.size w (bodyB x)) := by
  obtain ⟨i0, i1, r0, r1, f0, f1⟩ := ok
  obtain ⟨-, -, l0, l1, s0, s1, a0, a1, u0, u1, k0, k1, g0, g1⟩ := oh
  unfold bodyB
  obtain ⟨typ, id, len, router, seq, age, sum, border, boundary, la, ln, lc, aa, an, ac, cost, second, fwd, tag⟩ := x
  simp only [lsaE] at *
  subst ht
  simp only [show ¬ (3 : Int) = 5 from by omega, if_false]
  obtain ⟨W, hW⟩ : ∃ W, (w.alloc (.cells #[.int .i64 3, .int .u32 id, .int .i64 len, .int .u32 router, .int .i64 seq, .int .i64 age, .int .i64 sum, .bool border, .bool boundary, .slice la ln lc, .slice aa an ac, .int .i64 cost, .bool second, .int .u32 fwd, .int .i64 tag] 42)).alloc (.cells #[] 5) = W := ⟨_, rfl⟩
  have hs : W.heap.size = w.heap.size + 2 := by rw [← hW]; simp
  have B0 : Below w.heap.size w W := by rw [← hW]; exact ((Below.refl _ _).alloc (Nat.le_refl _) _).alloc (by simp) _
  have bx : W.heap[w.heap.size]? = some (.cells #[.int .i64 3, .int .u32 id, .int .i64 len, .int .u32 router, .int .i64 seq, .int .i64 age, .int .i64 sum, .bool border, .bool boundary, .slice la ln lc, .slice aa an ac, .int .i64 cost, .bool second, .int .u32 fwd, .int .i64 tag] 42 (0, 0)) := by rw [← hW]; exact (alloc_get _ _ _ (by simp)).trans (alloc_new _ _)
  have O0 : Hid (BytesOwn (w.heap.size + 1) W (.slice (some ⟨w.heap.size + 1, 0, none⟩) 0 0) []) := Lib.hid (by
    rw [← hW]
    have := World.ownsRow_made (size := 1) (e := 5) (base := w.heap.size + 1) (w.alloc (.cells #[.int .i64 3, .int .u32 id, .int .i64 len, .int .u32 router, .int .i64 seq, .int .i64 age, .int .i64 sum, .bool border, .bool boundary, .slice la ln lc, .slice aa an ac, .int .i64 cost, .bool second, .int .u32 fwd, .int .i64 tag] 42)) #[] 0 (by simp) (by unfold maxLen; omega) rfl
    simpa [BytesOwn] using this)
  have FL := Lib.hid (fun W => flags_calls second false W)
  have hfl : 0 ≤ flagsP second false ∧ flagsP second false < 18446744073709551616 := by cases second <;> decide
  obtain ⟨hf0, hf1⟩ := hfl
  generalize flagsP second false = fl at *
  have HW := Lib.hid hW
  have HB0 := Lib.hid B0
  have HBX := Lib.hid bx
  have HS := Lib.hid hs
  clear hW B0 bx hs
  have e12 : W.cell? ⟨w.heap.size, 12, none⟩ = some (.bool second) := blk_cell HBX.out rfl
  have e11 : W.cell? ⟨w.heap.size, 11, none⟩ = some (.int .i64 cost) := blk_cell HBX.out rfl
  go_enter Tryz.func140, Tryz.ntmps140
  go_wp2_with fail
  rw [HW.out]
  have C0 := Lib.hid (put_calls (w.heap.size + 1) W (.slice (some ⟨w.heap.size + 1, 0, none⟩) 0 0) [] 4 cost O0.out (by have := HS.out; omega) (by omega) (by omega) (by omega) (by simp))
  refine C0.out.mono ?_
  rintro e w1 ⟨v1, rfl, O1, BB1⟩
  have O1 : BytesOwn (w.heap.size + 1) w1 v1 (putB 4 cost) := O1
  have B1 : Below (w.heap.size + 1) W w1 := BB1
  have FIN : Hid (PutPost w.heap.size w (putB 4 cost) (.returned v1) w1) := Lib.hid (by
    refine ⟨v1, rfl, ?_, HB0.out.trans (B1.mono (by omega))⟩
    exact own_base O1 (by omega))
  clear O1 B1 BB1 C0
  go_wp2_with fail
  go_ret
  exact FIN.out

set_option maxHeartbeats 4000000 in
set_option maxRecDepth 100000 in
theorem body_calls4 (x : Lsa) (ok : OkL x) (oh : OkH x) (ht : x.typ = 4) (w : World) : Calls Tryz.prog 140 #[.agg (lsaE x).toArray] w (PutPost w.heap.size w (bodyB x)) := by
  obtain ⟨i0, i1, r0, r1, f0, f1⟩ := ok
  obtain ⟨-, -, l0, l1, s0, s1, a0, a1, u0, u1, k0, k1, g0, g1⟩ := oh
  unfold bodyB
  obtain ⟨typ, id, len, router, seq, age, sum, border, boundary, la, ln, lc, aa, an, ac, cost, second, fwd, tag⟩ := x
  simp only [lsaE] at *
  subst ht
  simp only [show ¬ (4 : Int) = 5 from by omega, if_false]
  obtain ⟨W, hW⟩ : ∃ W, (w.alloc (.cells #[.int .i64 4, .int .u32 id, .int .i64 len, .int .u32 router, .int .i64 seq, .int .i64 age, .int .i64 sum, .bool border, .bool boundary, .slice la ln lc, .slice aa an ac, .int .i64 cost, .bool second, .int .u32 fwd, .int .i64 tag] 42)).alloc (.cells #[] 5) = W := ⟨_, rfl⟩
  have hs : W.heap.size = w.heap.size + 2 := by rw [← hW]; simp
  have B0 : Below w.heap.size w W := by rw [← hW]; exact ((Below.refl _ _).alloc (Nat.le_refl _) _).alloc (by simp) _
  have bx : W.heap[w.heap.size]? = some (.cells #[.int .i64 4, .int .u32 id, .int .i64 len, .int .u32 router, .int .i64 seq, .int .i64 age, .int .i64 sum, .bool border, .bool boundary, .slice la ln lc, .slice aa an ac, .int .i64 cost, .bool second, .int .u32 fwd, .int .i64 tag] 42 (0, 0)) := by rw [← hW]; exact (alloc_get _ _ _ (by simp)).trans (alloc_new _ _)
  have O0 : Hid (BytesOwn (w.heap.size + 1) W (.slice (some ⟨w.heap.size + 1, 0, none⟩) 0 0) []) := Lib.hid (by
    rw [← hW]
    have := World.ownsRow_made (size := 1) (e := 5) (base := w.heap.size + 1) (w.alloc (.cells #[.int .i64 4, .int .u32 id, .int .i64 len, .int .u32 router, .int .i64 seq, .int .i64 age, .int .i64 sum, .bool border, .bool boundary, .slice la ln lc, .slice aa an ac, .int .i64 cost, .bool second, .int .u32 fwd, .int .i64 tag] 42)) #[] 0 (by simp) (by unfold maxLen; omega) rfl
    simpa [BytesOwn] using this)
  have FL := Lib.hid (fun W => flags_calls second false W)
  have hfl : 0 ≤ flagsP second false ∧ flagsP second false < 18446744073709551616 := by cases second <;> decide
  obtain ⟨hf0, hf1⟩ := hfl
  generalize flagsP second false = fl at *
  have HW := Lib.hid hW
  have HB0 := Lib.hid B0
  have HBX := Lib.hid bx
  have HS := Lib.hid hs
  clear hW B0 bx hs
  have e12 : W.cell? ⟨w.heap.size, 12, none⟩ = some (.bool second) := blk_cell HBX.out rfl
  have e11 : W.cell? ⟨w.heap.size, 11, none⟩ = some (.int .i64 cost) := blk_cell HBX.out rfl
  go_enter Tryz.func140, Tryz.ntmps140
  go_wp2_with fail
  rw [HW.out]
  have C0 := Lib.hid (put_calls (w.heap.size + 1) W (.slice (some ⟨w.heap.size + 1, 0, none⟩) 0 0) [] 4 cost O0.out (by have := HS.out; omega) (by omega) (by omega) (by omega) (by simp))
  refine C0.out.mono ?_
  rintro e w1 ⟨v1, rfl, O1, BB1⟩
  have O1 : BytesOwn (w.heap.size + 1) w1 v1 (putB 4 cost) := O1
  have B1 : Below (w.heap.size + 1) W w1 := BB1
  have FIN : Hid (PutPost w.heap.size w (putB 4 cost) (.returned v1) w1) := Lib.hid (by
    refine ⟨v1, rfl, ?_, HB0.out.trans (B1.mono (by omega))⟩
    exact own_base O1 (by omega))
  clear O1 B1 BB1 C0
  go_wp2_with fail
  go_ret
  exact FIN.out

theorem body_calls (x : Lsa) (ok : OkL x) (oh : OkH x) (ht : x.typ = 3 ∨ x.typ = 4 ∨ x.typ = 5) (w : World) : Calls Tryz.prog 140 #[.agg (lsaE x).toArray] w (PutPost w.heap.size w (bodyB x)) := by
  rcases ht with h | h | h
  · exact body_calls3 x ok oh h w
  · exact body_calls4 x ok oh h w
  · exact body_calls5 x ok oh h w

end Go.Proofs.YtddageahmgaigaaGreat

namespace Go.Proofs.YtddageahmgaigaaGreat
open Go.RowKit

def bytesB (x : Lsa) : List Int := hdrB x ++ putB 2 (bodyB x).length ++ bodyB x

theorem putB_range (n : Nat) (x : Int) : ∀ b ∈ putB n x, 0 ≤ b ∧ b < 256 := by
  induction n with
  | zero => intro b hb; simp [putB] at hb
  | succ n ih =>
    intro b hb
    rcases List.mem_cons.1 hb with rfl | hb
    · exact ⟨by omega, by omega⟩
    · exact ih b hb

theorem BytesAt.get {w : World} {v : Value} {l : List Int} (h : BytesAt w v l) : ∃ a cap, v = .slice a l.length cap ∧ l.length ≤ cap ∧ cap ≤ maxLen ∧ (a = none → cap = 0) ∧ (0 < l.length → ∃ b off, a = some ⟨b, off, none⟩ ∧ b < w.heap.size ∧ ∀ i (h : i < l.length), w.cell? ⟨b, off + i, none⟩ = some (.int .u8 l[i])) := by
  obtain ⟨a, cap, h0, h1, h2, hn, h3⟩ := h
  simp only [List.length_map] at h0 h1 h3
  refine ⟨a, cap, h0, h1, h2, hn, fun hl => ?_⟩
  obtain ⟨b, off, e, h4, h5⟩ := h3 hl
  refine ⟨b, off, e, h4, fun i hi => ?_⟩
  have := h5 i (by simpa using hi)
  simp only [List.getElem_map, byE] at this
  have := this 0 _ rfl
  simpa using this

def SumsPost (w : World) (e : Ending) (w' : World) : Prop := ∃ s t : Int, e = .returned (.tuple #[.int .i64 s, .int .i64 t]) ∧ 0 ≤ s ∧ s < 255 ∧ 0 ≤ t ∧ t < 255 ∧ w = w'

end Go.Proofs.YtddageahmgaigaaGreat
