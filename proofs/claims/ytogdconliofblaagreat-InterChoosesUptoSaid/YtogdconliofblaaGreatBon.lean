/-
  routingref23.Body of network advertisements.
-/
/-
  routingref23.Body of router advertisements.
-/
import Derived.Test.YtogdconliofblaaGreatBod
namespace Go.Proofs.YtogdconliofblaaGreat
open Go.RowKit

def u32E (x : Int) : List Value := [.int .u32 x]
def WordsAt (w : World) (v : Value) (l : List Int) : Prop := SlV 1 w v (l.map u32E)
theorem WordsAt.below {w w' : World} {v : Value} {l : List Int} (h : WordsAt w v l) (hb : Below w.heap.size w w') : WordsAt w' v l := SlV.below h hb
theorem WordsAt.get {w : World} {v : Value} {l : List Int} (h : WordsAt w v l) : ∃ a cap, v = .slice a l.length cap ∧ (0 < l.length → ∃ b off, a = some ⟨b, off, none⟩ ∧ b < w.heap.size ∧ ∀ i (h : i < l.length), w.cell? ⟨b, off + i, none⟩ = some (.int .u32 l[i])) := by
  obtain ⟨a, cap, h0, h1, h2, hn, h3⟩ := h
  simp only [List.length_map] at h0 h1 h3
  refine ⟨a, cap, h0, fun hl => ?_⟩
  obtain ⟨b, off, e, h4, h5⟩ := h3 hl
  refine ⟨b, off, e, h4, fun i hi => ?_⟩
  have := h5 i (by simpa using hi)
  simp only [List.getElem_map, u32E] at this
  have := this 0 _ rfl
  simpa using this

def attB (l : List Int) : List Int := (l.map (putB 4)).flatten
theorem attB_len (l : List Int) : (attB l).length = 4 * l.length := by
  unfold attB
  induction l with
  | nil => rfl
  | cons x l ih => simp [putB_len] at ih ⊢; omega
theorem attB_take (l : List Int) (k : Nat) (h : k < l.length) : attB (l.take (k + 1)) = attB (l.take k) ++ putB 4 l[k] := by
  unfold attB
  rw [List.take_succ_eq_append_getElem h, List.map_append, List.flatten_append]
  simp only [List.map_cons, List.map_nil, List.flatten_cons, List.flatten_nil, List.append_nil]
def bodyN (l : List Int) : List Int := putB 1 l.length ++ attB l

set_option maxHeartbeats 4000000 in
set_option maxRecDepth 100000 in
theorem body_net (x : Lsa) (ht : x.typ = 2) (l : List Int) (w : World) (hl : WordsAt w (.slice x.aa x.an x.ac) l) (hr : ∀ y ∈ l, 0 ≤ y ∧ y < 4294967296) (hn : l.length ≤ 64) : Calls Tryz.prog 177 #[.agg (lsaE x).toArray] w (PutPost w.heap.size w (bodyN l)) := by
  obtain ⟨typ, id, len, router, seq, age, sum, border, boundary, la, ln, lc, aa, an, ac, cost, second, fwd, tag⟩ := x
  simp only [lsaE] at *
  subst ht
  obtain ⟨a0, c0, e0, hc⟩ := hl.get
  cases e0
  have HL := Lib.hid hl
  have HC := Lib.hid hc
  have HR := Lib.hid hr
  clear hl hc hr
  obtain ⟨W, hW⟩ : ∃ W, (w.alloc (.cells #[.int .i64 2, .int .u32 id, .int .i64 len, .int .u32 router, .int .i64 seq, .int .i64 age, .int .i64 sum, .bool border, .bool boundary, .slice la ln lc, .slice aa l.length ac, .int .i64 cost, .bool second, .int .u32 fwd, .int .i64 tag] 47)).alloc (.cells #[] 5) = W := ⟨_, rfl⟩
  have hs : W.heap.size = w.heap.size + 2 := by rw [← hW]; simp
  have B0 : Below w.heap.size w W := by rw [← hW]; exact ((Below.refl _ _).alloc (Nat.le_refl _) _).alloc (by simp) _
  have bx : W.heap[w.heap.size]? = some (.cells #[.int .i64 2, .int .u32 id, .int .i64 len, .int .u32 router, .int .i64 seq, .int .i64 age, .int .i64 sum, .bool border, .bool boundary, .slice la ln lc, .slice aa l.length ac, .int .i64 cost, .bool second, .int .u32 fwd, .int .i64 tag] 47 (0, 0)) := by rw [← hW]; exact (alloc_get _ _ _ (by simp)).trans (alloc_new _ _)
  have O0 : Hid (BytesOwn (w.heap.size + 1) W (.slice (some ⟨w.heap.size + 1, 0, none⟩) 0 0) []) := Lib.hid (by
    rw [← hW]
    have := World.ownsRow_made (size := 1) (e := 5) (base := w.heap.size + 1) (w.alloc (.cells #[.int .i64 2, .int .u32 id, .int .i64 len, .int .u32 router, .int .i64 seq, .int .i64 age, .int .i64 sum, .bool border, .bool boundary, .slice la ln lc, .slice aa l.length ac, .int .i64 cost, .bool second, .int .u32 fwd, .int .i64 tag] 47)) #[] 0 (by simp) (by unfold maxLen; omega) rfl
    simpa [BytesOwn] using this)
  have HW := Lib.hid hW
  have HB0 := Lib.hid B0
  have HBX := Lib.hid bx
  have HS := Lib.hid hs
  clear hW B0 bx hs
  have C0 := Lib.hid (put_calls (w.heap.size + 1) W (.slice (some ⟨w.heap.size + 1, 0, none⟩) 0 0) [] 1 (l.length : Int) O0.out (by have := HS.out; omega) (by omega) (by omega) (by omega) (by simp))
  go_enter Tryz.func177, Tryz.ntmps177
  go_wp2_with fail
  rw [HW.out]
  refine C0.out.mono ?_
  rintro e w1 ⟨v1, rfl, O1, B1⟩
  have HO1 := Lib.hid O1
  have HB1 := Lib.hid B1
  clear O1 B1 C0 HW O0
  go_wp2_with fail
  go_loopw [3, 5] (fun v i wr => ∃ k : Nat, i = .int .i64 k ∧ k ≤ l.length ∧ Hid (BytesOwn (w.heap.size + 1) wr v (putB 1 (l.length : Int) ++ attB (l.take k)) ∧ Below (w.heap.size + 1) W wr)) (fun _ i _ => l.length - (intOf i).toNat)
  case atStart => exact ⟨0, rfl, Nat.zero_le _, Lib.hid ⟨by simpa [attB] using HO1.out, HB1.out⟩⟩
  case round =>
    clear HO1 HB1
    obtain ⟨k, rfl, hk, R⟩ := hrel
    have bx := (R.out.2.block w.heap.size (by omega)).trans HBX.out
    have e10 : wr.cell? ⟨w.heap.size, 10, none⟩ = some (.slice aa l.length ac) := blk_cell bx rfl
    clear bx
    by_cases c : k < l.length
    · have cl : k < l.length := c
      obtain ⟨b, off, rfl, hb, hcc⟩ := HC.out (by omega)
      have d := hcc k cl
      have d := (World.cell?_of_block (w := w) (w' := wr) (a := ⟨b, off + k, none⟩) (((R.out.2).block b (by omega)).trans (HB0.out.block b hb))).trans d
      obtain ⟨z0, z1⟩ := HR.out l[k] (List.getElem_mem cl)
      have TK := Lib.hid (attB_take l k cl)
      generalize l[k] = z at *
      have ln1 : (putB 1 (l.length : Int) ++ attB (l.take k)).length ≤ 100000 := by rw [List.length_append, putB_len, attB_len, List.length_take]; omega
      have CP := Lib.hid (put_calls (w.heap.size + 1) wr u3 _ 4 z R.out.1 (by have := R.out.2.size; have := HS.out; omega) (by omega) z0 (by omega) ln1)
      clear hcc ln1
      go_wp2_with fail
      refine CP.out.mono ?_
      rintro e w3 ⟨v3, rfl, O3, B3⟩
      have NX : Hid (BytesOwn (w.heap.size + 1) w3 v3 (putB 1 (l.length : Int) ++ attB (l.take (k + 1))) ∧ Below (w.heap.size + 1) W w3) := Lib.hid ⟨by rw [TK.out, ← List.append_assoc]; exact O3, R.out.2.trans B3⟩
      clear O3 B3 CP R d e10 TK
      go_wp2_with fail
      go_roundw
      case rel => exact ⟨k + 1, by go_num, c, NX⟩
      case measure => simp [intOf]; omega
    · have FIN : Hid (PutPost w.heap.size w (bodyN l) (.returned u3) wr) := Lib.hid (by
        refine ⟨u3, rfl, ?_, HB0.out.trans (R.out.2.mono (by omega))⟩
        have h := R.out.1
        rw [List.take_of_length_le (by omega)] at h
        unfold bodyN
        exact own_base h (by omega))
      clear R
      go_wp2_with fail
      go_ret
      exact FIN.out

end Go.Proofs.YtogdconliofblaaGreat

namespace Go.Proofs.YtogdconliofblaaGreat
open Go.RowKit

/-- a link of a router -/
structure Lnk where
  kind : Int
  id : Int
  data : Int
  cost : Int
deriving DecidableEq, Inhabited
def lnkE (x : Lnk) : List Value := [.int .i64 x.kind, .int .u32 x.id, .int .u32 x.data, .int .i64 x.cost]
def LnksAt (w : World) (v : Value) (l : List Lnk) : Prop := SlV 4 w v (l.map lnkE)
theorem LnksAt.below {w w' : World} {v : Value} {l : List Lnk} (h : LnksAt w v l) (hb : Below w.heap.size w w') : LnksAt w' v l := SlV.below h hb
theorem LnksAt.get {w : World} {v : Value} {l : List Lnk} (h : LnksAt w v l) : ∃ a cap, v = .slice a l.length cap ∧ (0 < l.length → ∃ b off, a = some ⟨b, off, none⟩ ∧ b < w.heap.size ∧ ∀ i (h : i < l.length),
    w.cell? ⟨b, off + i * 4, none⟩ = some (.int .i64 l[i].kind) ∧ w.cell? ⟨b, off + i * 4 + 1, none⟩ = some (.int .u32 l[i].id) ∧ w.cell? ⟨b, off + i * 4 + 2, none⟩ = some (.int .u32 l[i].data) ∧ w.cell? ⟨b, off + i * 4 + 3, none⟩ = some (.int .i64 l[i].cost)) := by
  obtain ⟨a, cap, h0, h1, h2, hn, h3⟩ := h
  simp only [List.length_map] at h0 h1 h3
  refine ⟨a, cap, h0, fun hl => ?_⟩
  obtain ⟨b, off, e, h4, h5⟩ := h3 hl
  refine ⟨b, off, e, h4, fun i hi => ?_⟩
  have := h5 i (by simpa using hi)
  simp only [List.getElem_map, lnkE] at this
  exact ⟨this 0 _ rfl, this 1 _ rfl, this 2 _ rfl, this 3 _ rfl⟩

/-- the numbers of a link lie in their ranges -/
structure OkK (x : Lnk) : Prop where
  k0 : 0 ≤ x.kind
  k1 : x.kind ≤ 3
  i0 : 0 ≤ x.id
  i1 : x.id < 4294967296
  d0 : 0 ≤ x.data
  d1 : x.data < 4294967296
  c0 : 0 ≤ x.cost
  c1 : x.cost ≤ 65535

def lnkB (x : Lnk) : List Int := putB 1 x.kind ++ putB 4 x.id ++ putB 4 x.data ++ putB 2 x.cost
def lnksB (l : List Lnk) : List Int := (l.map lnkB).flatten
theorem lnksB_len (l : List Lnk) : (lnksB l).length = 11 * l.length := by
  unfold lnksB
  induction l with
  | nil => rfl
  | cons x l ih => simp [lnkB, putB_len] at ih ⊢; omega
theorem lnksB_take (l : List Lnk) (k : Nat) (h : k < l.length) : lnksB (l.take (k + 1)) = lnksB (l.take k) ++ lnkB l[k] := by
  unfold lnksB
  rw [List.take_succ_eq_append_getElem h, List.map_append, List.flatten_append]
  simp only [List.map_cons, List.map_nil, List.flatten_cons, List.flatten_nil, List.append_nil]
def bodyR (border boundary : Bool) (l : List Lnk) : List Int := putB 1 (flagsP border boundary) ++ putB 1 l.length ++ lnksB l

set_option maxHeartbeats 4000000 in
set_option maxRecDepth 100000 in
theorem body_rtr (x : Lsa) (ht : x.typ = 1) (l : List Lnk) (w : World) (hl : LnksAt w (.slice x.la x.ln x.lc) l) (hr : ∀ y ∈ l, OkK y) (hn : l.length ≤ 64) : Calls Tryz.prog 177 #[.agg (lsaE x).toArray] w (PutPost w.heap.size w (bodyR x.border x.boundary l)) := by
  obtain ⟨typ, id, len, router, seq, age, sum, border, boundary, la, ln, lc, aa, an, ac, cost, second, fwd, tag⟩ := x
  simp only [lsaE] at *
  subst ht
  obtain ⟨a0, c0, e0, hc⟩ := hl.get
  cases e0
  have HC := Lib.hid hc
  have HR := Lib.hid hr
  clear hl hc hr
  obtain ⟨W, hW⟩ : ∃ W, (w.alloc (.cells #[.int .i64 1, .int .u32 id, .int .i64 len, .int .u32 router, .int .i64 seq, .int .i64 age, .int .i64 sum, .bool border, .bool boundary, .slice la l.length lc, .slice aa an ac, .int .i64 cost, .bool second, .int .u32 fwd, .int .i64 tag] 47)).alloc (.cells #[] 5) = W := ⟨_, rfl⟩
  have hs : W.heap.size = w.heap.size + 2 := by rw [← hW]; simp
  have B0 : Below w.heap.size w W := by rw [← hW]; exact ((Below.refl _ _).alloc (Nat.le_refl _) _).alloc (by simp) _
  have bx : W.heap[w.heap.size]? = some (.cells #[.int .i64 1, .int .u32 id, .int .i64 len, .int .u32 router, .int .i64 seq, .int .i64 age, .int .i64 sum, .bool border, .bool boundary, .slice la l.length lc, .slice aa an ac, .int .i64 cost, .bool second, .int .u32 fwd, .int .i64 tag] 47 (0, 0)) := by rw [← hW]; exact (alloc_get _ _ _ (by simp)).trans (alloc_new _ _)
  have O0 : Hid (BytesOwn (w.heap.size + 1) W (.slice (some ⟨w.heap.size + 1, 0, none⟩) 0 0) []) := Lib.hid (by
    rw [← hW]
    have := World.ownsRow_made (size := 1) (e := 5) (base := w.heap.size + 1) (w.alloc (.cells #[.int .i64 1, .int .u32 id, .int .i64 len, .int .u32 router, .int .i64 seq, .int .i64 age, .int .i64 sum, .bool border, .bool boundary, .slice la l.length lc, .slice aa an ac, .int .i64 cost, .bool second, .int .u32 fwd, .int .i64 tag] 47)) #[] 0 (by simp) (by unfold maxLen; omega) rfl
    simpa [BytesOwn] using this)
  have FL := Lib.hid (fun W => flags_calls border boundary W)
  have hfl : 0 ≤ flagsP border boundary ∧ flagsP border boundary < 18446744073709551616 := by cases border <;> cases boundary <;> decide
  obtain ⟨hf0, hf1⟩ := hfl
  unfold bodyR
  generalize flagsP border boundary = fl at *
  have HW := Lib.hid hW
  have HB0 := Lib.hid B0
  have HBX := Lib.hid bx
  have HS := Lib.hid hs
  have q7 : W.cell? ⟨w.heap.size, 7, none⟩ = some (.bool border) := blk_cell bx rfl
  have q8 : W.cell? ⟨w.heap.size, 8, none⟩ = some (.bool boundary) := blk_cell bx rfl
  clear hW B0 bx hs
  have C0 := Lib.hid (put_calls (w.heap.size + 1) W (.slice (some ⟨w.heap.size + 1, 0, none⟩) 0 0) [] 1 fl O0.out (by have := HS.out; omega) (by omega) (by omega) (by omega) (by simp))
  go_enter Tryz.func177, Tryz.ntmps177
  go_wp2_with fail
  refine (FL.out _).mono ?_
  rintro e w0 ⟨rfl, rfl⟩
  go_wp2_with fail
  rw [HW.out]
  refine C0.out.mono ?_
  rintro e w1 ⟨v1, rfl, O1, B1⟩
  have e9 : w1.cell? ⟨w.heap.size, 9, none⟩ = some (.slice la l.length lc) := blk_cell ((B1.block w.heap.size (by omega)).trans HBX.out) rfl
  have C1 := Lib.hid (put_calls (w.heap.size + 1) w1 v1 (putB 1 fl) 1 (l.length : Int) O1 (by have := B1.size; have := HS.out; omega) (by omega) (by omega) (by omega) (by simp [putB_len]))
  have HB1 := Lib.hid B1
  clear O1 B1 C0 HW O0 q7 q8 FL
  go_wp2_with fail
  refine C1.out.mono ?_
  rintro e w2 ⟨v2, rfl, O2, B2⟩
  have HO2 := Lib.hid O2
  have HB2 := Lib.hid (HB1.out.trans B2)
  clear O2 B2 C1 e9 HB1
  go_wp2_with fail
  go_loopw [3, 4] (fun v i wr => ∃ k : Nat, i = .int .i64 k ∧ k ≤ l.length ∧ Hid (BytesOwn (w.heap.size + 1) wr v (putB 1 fl ++ putB 1 (l.length : Int) ++ lnksB (l.take k)) ∧ Below (w.heap.size + 1) W wr)) (fun _ i _ => l.length - (intOf i).toNat)
  case atStart => exact ⟨0, rfl, Nat.zero_le _, Lib.hid ⟨by simpa [lnksB] using HO2.out, HB2.out⟩⟩
  case round =>
    clear HO2 HB2
    obtain ⟨k, rfl, hk, R⟩ := hrel
    have e9 : wr.cell? ⟨w.heap.size, 9, none⟩ = some (.slice la l.length lc) := blk_cell ((R.out.2.block w.heap.size (by omega)).trans HBX.out) rfl
    by_cases c : k < l.length
    · obtain ⟨b, off, rfl, hb, hcc⟩ := HC.out (by omega)
      obtain ⟨x0, x1, x2, x3⟩ := hcc k c
      have D1 := Lib.hid x1
      have D2 := Lib.hid x2
      have D3 := Lib.hid x3
      have d0 := (World.cell?_of_block (w := w) (w' := wr) (a := ⟨b, off + k * 4, none⟩) ((R.out.2.block b (by omega)).trans (HB0.out.block b hb))).trans x0
      obtain ⟨r0, r1, r2, r3, r4, r5, r6, r7⟩ := HR.out l[k] (List.getElem_mem c)
      have TK := Lib.hid (lnksB_take l k c)
      generalize l[k] = z at *
      obtain ⟨z0, z1, z2, z3⟩ := z
      simp only [lnkB] at *
      have ln1 : (lnksB (l.take k)).length ≤ 704 := by rw [lnksB_len, List.length_take]; omega
      clear hcc x0 x1 x2 x3
      have CP0 := Lib.hid (put_calls (w.heap.size + 1) wr u3 _ 1 z0 R.out.1 (by have := R.out.2.size; have := HS.out; omega) (by omega) (by omega) (by omega) (by simp only [List.length_append, putB_len]; omega))
      go_wp2_with fail
      refine CP0.out.mono ?_
      rintro e w3 ⟨v3, rfl, O3, B3⟩
      have NX1 := Lib.hid (And.intro O3 (R.out.2.trans B3))
      clear O3 B3 CP0 d0 e9 R
      have CP1 := Lib.hid (put_calls (w.heap.size + 1) w3 v3 _ 4 z1 NX1.out.1 (by have := NX1.out.2.size; have := HS.out; omega) (by omega) (by omega) (by omega) (by simp only [List.length_append, putB_len]; omega))
      have e9 : w3.cell? ⟨w.heap.size, 9, none⟩ = some (.slice (some ⟨b, off, none⟩) l.length lc) := blk_cell ((NX1.out.2.block w.heap.size (by omega)).trans HBX.out) rfl
      have d1 := (World.cell?_of_block (w := w) (w' := w3) (a := ⟨b, off + k * 4 + 1, none⟩) ((NX1.out.2.block b (by omega)).trans (HB0.out.block b hb))).trans D1.out
      go_wp2_with fail
      refine CP1.out.mono ?_
      rintro e w4 ⟨v4, rfl, O4, B4⟩
      have NX2 := Lib.hid (And.intro O4 (NX1.out.2.trans B4))
      clear O4 B4 CP1 d1 e9 NX1
      have CP2 := Lib.hid (put_calls (w.heap.size + 1) w4 v4 _ 4 z2 NX2.out.1 (by have := NX2.out.2.size; have := HS.out; omega) (by omega) (by omega) (by omega) (by simp only [List.length_append, putB_len]; omega))
      have e9 : w4.cell? ⟨w.heap.size, 9, none⟩ = some (.slice (some ⟨b, off, none⟩) l.length lc) := blk_cell ((NX2.out.2.block w.heap.size (by omega)).trans HBX.out) rfl
      have d2 := (World.cell?_of_block (w := w) (w' := w4) (a := ⟨b, off + k * 4 + 2, none⟩) ((NX2.out.2.block b (by omega)).trans (HB0.out.block b hb))).trans D2.out
      go_wp2_with fail
      refine CP2.out.mono ?_
      rintro e w5 ⟨v5, rfl, O5, B5⟩
      have NX3 := Lib.hid (And.intro O5 (NX2.out.2.trans B5))
      clear O5 B5 CP2 d2 e9 NX2
      have CP3 := Lib.hid (put_calls (w.heap.size + 1) w5 v5 _ 2 z3 NX3.out.1 (by have := NX3.out.2.size; have := HS.out; omega) (by omega) (by omega) (by omega) (by simp only [List.length_append, putB_len]; omega))
      have e9 : w5.cell? ⟨w.heap.size, 9, none⟩ = some (.slice (some ⟨b, off, none⟩) l.length lc) := blk_cell ((NX3.out.2.block w.heap.size (by omega)).trans HBX.out) rfl
      have d3 := (World.cell?_of_block (w := w) (w' := w5) (a := ⟨b, off + k * 4 + 3, none⟩) ((NX3.out.2.block b (by omega)).trans (HB0.out.block b hb))).trans D3.out
      go_wp2_with fail
      refine CP3.out.mono ?_
      rintro e w6 ⟨v6, rfl, O6, B6⟩
      have NX4 := Lib.hid (And.intro O6 (NX3.out.2.trans B6))
      clear O6 B6 CP3 d3 e9 NX3
      have NX : Hid (BytesOwn (w.heap.size + 1) w6 v6 (putB 1 fl ++ putB 1 (l.length : Int) ++ lnksB (l.take (k + 1))) ∧ Below (w.heap.size + 1) W w6) := Lib.hid ⟨by rw [TK.out]; simpa only [List.append_assoc] using NX4.out.1, NX4.out.2⟩
      clear NX4 TK
      go_wp2_with fail
      go_roundw
      case rel => exact ⟨k + 1, by go_num, c, NX⟩
      case measure => simp [intOf]; omega
    · have FIN : Hid (PutPost w.heap.size w (putB 1 fl ++ putB 1 (l.length : Int) ++ lnksB l) (.returned u3) wr) := Lib.hid (by
        refine ⟨u3, rfl, ?_, HB0.out.trans (R.out.2.mono (by omega))⟩
        have h := R.out.1
        rw [List.take_of_length_le (by omega)] at h
        exact own_base h (by omega))
      clear R
      go_wp2_with fail
      go_ret
      exact FIN.out

end Go.Proofs.YtogdconliofblaaGreat
