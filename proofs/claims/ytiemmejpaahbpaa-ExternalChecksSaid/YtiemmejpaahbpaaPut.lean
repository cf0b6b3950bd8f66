/-
  routingref23.Put: the bytes of a number are appended.
-/
import Derived.Test.YtiemmejpaahbpaaChk
import Derived.Test.YtiemmejpaahbpaaCat
namespace Go.Proofs.Ytiemmejpaahbpaa
open Go.RowKit

theorem Try.infoU8 : (Try.prog.info? 5).map (fun i => (i.zero, i.size, i.bytes)) = some (some (.int .u8 0), 1, 1) := by kernel_rfl

def byE (b : Int) : List Value := [.int .u8 b]
def BytesAt (w : World) (v : Value) (l : List Int) : Prop := SlV 1 w v (l.map byE)
def BytesOwn (base : Nat) (w : World) (v : Value) (l : List Int) : Prop := w.ownsRow base 5 1 v l.length (l.map byE).flatten

theorem byE_len (l : List Int) : ∀ c ∈ l.map byE, c.length = 1 := by
  intro c hc
  obtain ⟨h, _, rfl⟩ := List.mem_map.1 hc
  rfl
theorem byE_one (l : List Int) : ∀ c ∈ l.map byE, ∀ u ∈ c, u.oneCell' = true := by
  intro c hc u hu
  obtain ⟨h, _, rfl⟩ := List.mem_map.1 hc
  simp [byE] at hu; subst hu; rfl
theorem BytesOwn.at {base : Nat} {w : World} {v : Value} {l : List Int} (h : BytesOwn base w v l) : BytesAt w v l := SlV.of_own (byE_len l) (by simpa [BytesOwn] using h)
theorem BytesAt.below {w w' : World} {v : Value} {l : List Int} (h : BytesAt w v l) (hb : Below w.heap.size w w') : BytesAt w' v l := SlV.below h hb
theorem BytesOwn.below {base : Nat} {w w' : World} {v : Value} {l : List Int} (h : BytesOwn base w v l) (hb : Below w.heap.size w w') : BytesOwn base w' v l :=
  World.ownsRow.kept (row := none) h ⟨hb.os, hb.tape, hb.output, hb.size, fun k hk _ => hb.block k hk⟩ (by cases v.ownBlock <;> simp)

/-- a new one-element row -/
theorem sl_one {w : World} {vals : List Value} {t : TypeId} : SlV vals.length (w.alloc (.cells vals.toArray t)) (.slice (some ⟨w.heap.size, 0, none⟩) 1 1) [vals] := by
  have hb := alloc_new w (.cells vals.toArray t)
  refine ⟨_, 1, rfl, Nat.le_refl _, by unfold maxLen; omega, (fun h => by cases h), fun _ => ⟨_, 0, rfl, blk_lt hb, fun i hi j u hu => ?_⟩⟩
  have : i = 0 := by simpa using hi
  subst this
  simp only [List.getElem_cons_zero] at hu
  simp only [Nat.zero_mul, Nat.zero_add]
  exact blk_cell hb (by simpa using hu)

/-- the n last bytes of x, the highest first -/
def putB : Nat → Int → List Int
  | 0, _ => []
  | n + 1, x => (x / 2 ^ (8 * n) % 256) :: putB n x
theorem putB_len (n : Nat) (x : Int) : (putB n x).length = n := by
  induction n with
  | zero => rfl
  | succ n ih => simp [putB, ih]

def PutPost (base : Nat) (w : World) (l : List Int) (e : Ending) (w' : World) : Prop := ∃ v, e = .returned v ∧ BytesOwn base w' v l ∧ Below base w w'

structure PutRel (base : Nat) (w : World) (l : List Int) (n : Nat) (x : Int) (rem : Nat) (v : Value) (L : List Int) (wr : World) : Prop where
  own : BytesOwn base wr v L
  bel : Below base w wr
  eq : L ++ putB rem x = l ++ putB n x
  len : L.length + rem = l.length + n

theorem PutRel.step {base : Nat} {w : World} {l : List Int} {n : Nat} {x : Int} {j : Nat} {v v' : Value} {L : List Int} {wr w3 w4 : World} (R : PutRel base w l n x (j + 1) v L wr) (hbs : base ≤ w.heap.size) (hb : Below wr.heap.size wr w3)
    (own' : w4.ownsRow base 5 1 v' (L.length + [byE (x / 2 ^ (8 * j) % 256)].length) ((L.map byE).flatten ++ [byE (x / 2 ^ (8 * j) % 256)].flatten)) (hg : w3.grownBy w4 v.ownBlock) : PutRel base w l n x j v' (L ++ [x / 2 ^ (8 * j) % 256]) w4 := by
  have hB3 : Below base w w3 := R.bel.trans (hb.mono (Nat.le_trans hbs R.bel.size))
  refine ⟨?_, ?_, ?_, ?_⟩
  · unfold BytesOwn
    have e : (L ++ [x / 2 ^ (8 * j) % 256]).length = L.length + [byE (x / 2 ^ (8 * j) % 256)].length := by simp
    have e2 : ((L ++ [x / 2 ^ (8 * j) % 256]).map byE).flatten = (L.map byE).flatten ++ [byE (x / 2 ^ (8 * j) % 256)].flatten := by simp
    rw [e, e2]; exact own'
  · exact hB3.grown hg (Nat.le_trans hbs hB3.size) (fun k hk => (R.own.lt k hk).1)
  · have := R.eq; simpa [putB] using this
  · have := R.len; simp; omega

set_option maxHeartbeats 2000000 in
set_option maxRecDepth 100000 in
theorem put_calls (base : Nat) (w : World) (v : Value) (l : List Int) (n : Nat) (x : Int) (h : BytesOwn base w v l) (hbs : base ≤ w.heap.size) (hn : n ≤ 8) (_x0 : 0 ≤ x) (_x1 : x < 18446744073709551616) (hl : l.length ≤ 100000) :
    Calls Try.prog 79 #[v, .int .i64 n, .int .u64 x] w (PutPost base w (l ++ putB n x)) := by
  obtain ⟨i0, hi0, hz0, hz1, hz2⟩ := info_parts Try.infoU8
  have HI0 := Lib.hid hi0
  have HZ0 := Lib.hid hz0
  have HZ1 := Lib.hid hz1
  have HZ2 := Lib.hid hz2
  clear hi0 hz0 hz1 hz2
  have R0 : Hid (PutRel base w l n x n v l w) := Lib.hid ⟨h, Below.refl _ _, rfl, rfl⟩
  have HBS := Lib.hid hbs
  clear h hbs
  go_enter Try.func79, Try.ntmps79
  go_wp2_with fail
  go_loopw [0, 7] (fun v i wr => ∃ (L : List Int) (rem : Nat), PutRel base w l n x rem v L wr ∧ rem ≤ n ∧ ((i = .int .i64 (-1) ∧ rem = 0) ∨ ∃ j : Nat, i = .int .i64 j ∧ rem = j + 1)) (fun _ i _ => (intOf i + 1).toNat)
  case atStart =>
    refine ⟨l, n, R0.out, Nat.le_refl _, ?_⟩
    cases n with
    | zero => exact .inl ⟨rfl, rfl⟩
    | succ n => exact .inr ⟨n, by go_num, rfl⟩
  case round =>
    clear R0
    obtain ⟨L, rem, R, hr, ⟨rfl, rfl⟩ | ⟨j, rfl, rfl⟩⟩ := hrel
    · have RR := Lib.hid R
      clear R
      go_wp2_with fail
      go_ret
      refine ⟨_, rfl, ?_, RR.out.bel⟩
      have e := RR.out.eq
      rw [show putB 0 x = [] from rfl, List.append_nil] at e
      rw [← e]; exact RR.out.own
    · have RR := Lib.hid R
      clear R
      have hj : j < 8 := by omega
      have B3 : Below wr.heap.size wr (wr.alloc (.cells #[.int .u8 (x / 2 ^ (8 * j) % 256)] 5)) := (Below.refl _ _).alloc (Nat.le_refl _) _
      have OW := Lib.hid (RR.out.own.below B3)
      have SL : Hid (SlV 1 (wr.alloc (.cells #[.int .u8 (x / 2 ^ (8 * j) % 256)] 5)) (.slice (some ⟨wr.heap.size, 0, none⟩) 1 1) [byE (x / 2 ^ (8 * j) % 256)]) := Lib.hid (sl_one (vals := byE (x / 2 ^ (8 * j) % 256)))
      have K1 : Hid (L.length + [byE (x / 2 ^ (8 * j) % 256)].length ≤ maxLen) := Lib.hid (by have := RR.out.len; simp only [List.length_singleton]; unfold maxLen; omega)
      have K2 : Hid ((L.length + [byE (x / 2 ^ (8 * j) % 256)].length) * 1 ≤ 140737488355328) := Lib.hid (by have := RR.out.len; simp only [List.length_singleton]; omega)
      have BS : Hid (base ≤ (wr.alloc (.cells #[.int .u8 (x / 2 ^ (8 * j) % 256)] 5)).heap.size) := Lib.hid (Nat.le_trans HBS.out (Nat.le_trans RR.out.bel.size B3.size))
      have STEP := Lib.hid (fun v' w4 own' hg4 => RR.out.step (v' := v') (w4 := w4) HBS.out B3 own' hg4)
      clear B3
      go_wp2_with (at_builtin; refine wpList_append_sl rfl _ _ _ rfl base 5 i0 _ 1 1 Try.underlying96 HI0.out HZ0.out HZ1.out HZ2.out rfl (by decide) _ L.length _ rfl OW.out _ [byE (x / 2 ^ (8 * j) % 256)] rfl SL.out (byE_len [_]) (byE_one [_]) K1.out K2.out BS.out ?_; intro v' w4 own' hg4; have NX := Lib.hid (STEP.out v' w4 own' hg4); clear own' hg4)
      cases j with
      | zero =>
        go_roundw
        case rel => exact ⟨_, 0, NX.out, by omega, .inl ⟨by go_num, rfl⟩⟩
        case measure => simp [intOf]
      | succ j =>
        go_roundw
        case rel => exact ⟨_, j + 1, NX.out, by omega, .inr ⟨j, by go_num, rfl⟩⟩
        case measure => simp [intOf]; omega

end Go.Proofs.Ytiemmejpaahbpaa
