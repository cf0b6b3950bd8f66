/-
  The walks through New of the heap and of the reference.
-/
import Derived.Test.YtnlcckajldkchaaWke
import Derived.Laws.MakeOwn
namespace Go.Proofs.Ytnlcckajldkchaa
open Go.RowKit

def zeros (n : Nat) : Array Value := ints (List.replicate n 0)
def bools (l : List Bool) : Array Value := (l.map Value.bool).toArray
def falses (n : Nat) : Array Value := bools (List.replicate n false)
theorem bools_get (l : List Bool) (i : Nat) (h : i < l.length) : (bools l)[i]? = some (.bool (l.getD i false)) := by
  simp [bools, h]
theorem bools_set (l : List Bool) (i : Nat) (z : Bool) : (bools l).setIfInBounds i (.bool z) = bools (l.set i z) := by
  simp [bools, List.map_set]

theorem Try.info4 : (Try.prog.info? 4).map (fun i => (i.zero, i.size, i.bytes)) = some (some (.bool false), 1, 1) := by kernel_rfl

theorem made_ints (n : Nat) : madeCells (Value.int .i64 0).cells (n * 1) = zeros n := by
  rw [Nat.mul_one]
  apply Array.ext
  · simp [madeCells, zeros, ints]
  · intro i h1 h2
    simp [madeCells, zeros, ints, Value.cells, Nat.mod_one]
theorem made_bools (n : Nat) : madeCells (Value.bool false).cells (n * 1) = falses n := by
  rw [Nat.mul_one]
  apply Array.ext
  · simp [madeCells, falses, bools]
  · intro i h1 h2
    simp [madeCells, falses, bools, Value.cells, Nat.mod_one]

theorem make_ints (z : Int) (n : Nat) (hz : z = n) (hn : n ≤ 65536) (W : World) : (Instr.makeSlice 22 (.int .i64 z) (.int .i64 z)).run Try.prog W = .ok (.slice (some ⟨W.heap.size, 0, none⟩) n n) (W.alloc (.cells (zeros n) 3)) := by
  subst hz
  obtain ⟨i0, hi, hz0, hz1, hz2⟩ := info_parts Try.info3
  have := run_make (P := Try.prog) W 22 3 i0 _ Try.underlying22 hi hz0 .i64 .i64 (n : Int) (n : Int) (by omega) (by omega) (by rw [hz2]; omega) (by omega)
  rw [Int.toNat_natCast, hz1, made_ints] at this
  exact this
theorem make_bools (z : Int) (n : Nat) (hz : z = n) (hn : n ≤ 65536) (W : World) : (Instr.makeSlice 49 (.int .i64 z) (.int .i64 z)).run Try.prog W = .ok (.slice (some ⟨W.heap.size, 0, none⟩) n n) (W.alloc (.cells (falses n) 4)) := by
  subst hz
  obtain ⟨i0, hi, hz0, hz1, hz2⟩ := info_parts Try.info4
  have := run_make (P := Try.prog) W 49 4 i0 _ Try.underlying49 hi hz0 .i64 .i64 (n : Int) (n : Int) (by omega) (by omega) (by rw [hz2]; omega) (by omega)
  rw [Int.toNat_natCast, hz1, made_bools] at this
  exact this

def clampN (n : Int) : Nat := (min (max n 0) 65536).toNat

/-! ### The reference's table in memory -/

structure RT (hb ib kb : Nat) (w : World) (r : Hp.Tb) : Prop where
  top : w.heap[hb]? = some (.cells #[.slice (some ⟨ib, 0, none⟩) r.ins.length r.ins.length, .slice (some ⟨kb, 0, none⟩) r.ins.length r.ins.length] 51 (0, 0))
  ins : w.heap[ib]? = some (.cells (bools r.ins) 4 (0, 0))
  ky : w.heap[kb]? = some (.cells (ints r.keys) 3 (0, 0))
  ne1 : hb ≠ ib
  ne2 : hb ≠ kb
  ne3 : ib ≠ kb
  small : r.ins.length ≤ 65536
  lk : r.keys.length = r.ins.length

def tnew (n : Nat) : Hp.Tb := ⟨List.replicate n false, List.replicate n 0⟩

def RNewPost (n : Nat) (w : World) (e : Ending) (w' : World) : Prop :=
  ∃ hb ib kb, e = .returned (.pointer (some ⟨hb, 0, none⟩)) ∧ w.heap.size ≤ hb ∧ w.heap.size ≤ ib ∧ w.heap.size ≤ kb ∧ RT hb ib kb w' (tnew n) ∧ Below w.heap.size w w'

theorem alloc3 (w : World) (a b c : Obj) : (((w.alloc a).alloc b).alloc c).drew.heap[w.heap.size]? = some a ∧ (((w.alloc a).alloc b).alloc c).drew.heap[w.heap.size + 1]? = some b ∧ (((w.alloc a).alloc b).alloc c).drew.heap[w.heap.size + 1 + 1]? = some c := by
  show (((w.heap.push a).push b).push c)[_]? = _ ∧ (((w.heap.push a).push b).push c)[_]? = _ ∧ (((w.heap.push a).push b).push c)[_]? = _
  simp only [Array.getElem?_push, Array.size_push]
  refine ⟨?_, ?_, ?_⟩
  · rw [if_neg (by omega), if_neg (by omega), if_pos trivial]
  · rw [if_neg (by omega), if_pos trivial]
  · rw [if_pos trivial]
theorem alloc3_below (w : World) (a b c : Obj) : Below w.heap.size w (((w.alloc a).alloc b).alloc c).drew :=
  ((((Below.refl _ _).alloc (Nat.le_refl _) _).alloc (by simp) _).alloc (by simp; omega) _).drew

theorem rnew1 (m : Nat) (hm : m ≤ 65536) (w : World) : RNewPost m w (.returned (.pointer (some ⟨w.heap.size + 1 + 1, 0, none⟩)))
    (((w.alloc (.cells (falses m) 4)).alloc (.cells (zeros m) 3)).alloc (.cells #[.slice (some ⟨w.heap.size, 0, none⟩) m m, .slice (some ⟨w.heap.size + 1, 0, none⟩) m m] 51)).drew := by
  obtain ⟨a, b, c⟩ := alloc3 w (.cells (falses m) 4) (.cells (zeros m) 3) (.cells #[.slice (some ⟨w.heap.size, 0, none⟩) m m, .slice (some ⟨w.heap.size + 1, 0, none⟩) m m] 51)
  refine ⟨w.heap.size + 1 + 1, w.heap.size, w.heap.size + 1, rfl, by omega, by omega, by omega, ⟨?_, a, b, by omega, by omega, by omega, by simpa [tnew] using hm, by simp [tnew]⟩, alloc3_below ..⟩
  simp only [tnew, List.length_replicate]; exact c
theorem rnew2 (m : Nat) (hm : m ≤ 65536) (w : World) : RNewPost m w (.returned (.pointer (some ⟨w.heap.size + 1 + 1, 0, none⟩)))
    (((w.alloc (.cells (zeros m) 3)).alloc (.cells (falses m) 4)).alloc (.cells #[.slice (some ⟨w.heap.size + 1, 0, none⟩) m m, .slice (some ⟨w.heap.size, 0, none⟩) m m] 51)).drew := by
  obtain ⟨a, b, c⟩ := alloc3 w (.cells (zeros m) 3) (.cells (falses m) 4) (.cells #[.slice (some ⟨w.heap.size + 1, 0, none⟩) m m, .slice (some ⟨w.heap.size, 0, none⟩) m m] 51)
  refine ⟨w.heap.size + 1 + 1, w.heap.size + 1, w.heap.size, rfl, by omega, by omega, by omega, ⟨?_, b, a, by omega, by omega, by omega, by simpa [tnew] using hm, by simp [tnew]⟩, alloc3_below ..⟩
  simp only [tnew, List.length_replicate]; exact c

set_option maxHeartbeats 400000 in
theorem rnew_mid (n : Int) (h0 : 0 ≤ n) (h1 : n ≤ 65536) (w : World) : Calls Try.prog 13 #[.int .i64 n] w (RNewPost (n.toNat) w) := by
  have mk1 := make_ints n (n.toNat) (by omega) (by omega)
  have mk2 := make_bools n (n.toNat) (by omega) (by omega)
  have r1 := Lib.hid (rnew1 (n.toNat) (by omega) w)
  have r2 := Lib.hid (rnew2 (n.toNat) (by omega) w)
  go_enter Try.func13, Try.ntmps13
  go_wp2_with fail
  go_region
  · go_wp2_with fail
    go_ret
    exact r1.out
  · go_wp2_with fail
    go_ret
    exact r2.out

set_option maxHeartbeats 400000 in
theorem rnew_lo (n : Int) (h0 : n < 0) (w : World) : Calls Try.prog 13 #[.int .i64 n] w (RNewPost (0) w) := by
  have mk1 := make_ints 0 (0) (by omega) (by omega)
  have mk2 := make_bools 0 (0) (by omega) (by omega)
  have r1 := Lib.hid (rnew1 (0) (by omega) w)
  have r2 := Lib.hid (rnew2 (0) (by omega) w)
  go_enter Try.func13, Try.ntmps13
  go_wp2_with fail
  go_region
  · go_wp2_with fail
    go_ret
    exact r1.out
  · go_wp2_with fail
    go_ret
    exact r2.out

set_option maxHeartbeats 400000 in
theorem rnew_hi (n : Int) (h0 : 65536 < n) (w : World) : Calls Try.prog 13 #[.int .i64 n] w (RNewPost (65536) w) := by
  have mk1 := make_ints 65536 (65536) (by omega) (by omega)
  have mk2 := make_bools 65536 (65536) (by omega) (by omega)
  have r1 := Lib.hid (rnew1 (65536) (by omega) w)
  have r2 := Lib.hid (rnew2 (65536) (by omega) w)
  go_enter Try.func13, Try.ntmps13
  go_wp2_with fail
  go_region
  · go_wp2_with fail
    go_ret
    exact r1.out
  · go_wp2_with fail
    go_ret
    exact r2.out

theorem rnew_rep (n : Int) (w : World) : Calls Try.prog 13 #[.int .i64 n] w (RNewPost (clampN n) w) := by
  by_cases h : n < 0
  · rw [show clampN n = 0 from by unfold clampN; omega]; exact rnew_lo n h w
  · by_cases h2 : 65536 < n
    · rw [show clampN n = 65536 from by unfold clampN; omega]; exact rnew_hi n h2 w
    · rw [show clampN n = n.toNat from by unfold clampN; omega]; exact rnew_mid n (by omega) (by omega) w

/-! ### New of the heap -/

def NewPost (n : Nat) (w : World) (e : Ending) (w' : World) : Prop :=
  ∃ hb pb kb, e = .returned (.pointer (some ⟨hb, 0, none⟩)) ∧ w.heap.size ≤ hb ∧ w.heap.size ≤ pb ∧ w.heap.size ≤ kb ∧ Rep (fun k => w'.heap.size ≤ k) hb pb kb w' (.slice none 0 0) (Hp.new n) ∧ Below w.heap.size w w'

/-- after k rounds of the loop -/
structure NewRel (m : Nat) (w : World) (hb pb kb : Nat) (k : Nat) (wr : World) : Prop where
  hk : k ≤ m
  top : wr.heap[hb]? = some (.cells #[.slice none 0 0, .slice (some ⟨pb, 0, none⟩) m m, .slice (some ⟨kb, 0, none⟩) m m] 46 (0, 0))
  pl : wr.heap[pb]? = some (.cells (ints (List.replicate k (-1) ++ List.replicate (m - k) 0)) 3 (0, 0))
  ky : wr.heap[kb]? = some (.cells (zeros m) 3 (0, 0))
  bel : Below w.heap.size w wr
  ge1 : w.heap.size ≤ hb
  ge2 : w.heap.size ≤ pb
  ge3 : w.heap.size ≤ kb
  ne1 : hb ≠ pb
  ne2 : hb ≠ kb
  ne3 : pb ≠ kb

theorem NewRel.next {m : Nat} {w : World} {hb pb kb k : Nat} {wr : World} (r : NewRel m w hb pb kb k wr) (h : k < m) : NewRel m w hb pb kb (k + 1) (wr.setCell ⟨pb, k, none⟩ (.int .i64 (-1))) := by
  have n1 := r.ne1; have n3 := r.ne3
  refine ⟨h, ?_, ?_, ?_, r.bel.setCell r.ge2 _, r.ge1, r.ge2, r.ge3, n1, r.ne2, n3⟩
  · rw [blk_other _ _ _ _ (by exact n1)]; exact r.top
  · rw [blk_set r.pl, ints_set]
    have e : (List.replicate k (-1) ++ List.replicate (m - k) (0 : Int)).set k (-1) = List.replicate (k + 1) (-1) ++ List.replicate (m - (k + 1)) 0 := by
      rw [List.set_append_right _ _ (by simp), List.length_replicate, Nat.sub_self, show m - k = m - (k + 1) + 1 from by omega, List.replicate_succ, List.set_cons_zero, List.replicate_succ' (n := k)]
      simp
    rw [e]
  · rw [blk_other _ _ _ _ (by exact n3.symm)]; exact r.ky

theorem NewRel.post {m : Nat} {w : World} {hb pb kb k : Nat} {wr : World} (r : NewRel m w hb pb kb k wr) (hm : m ≤ 65536) (h : ¬ k < m) : NewPost m w (.returned (.pointer (some ⟨hb, 0, none⟩))) wr := by
  have hk := r.hk
  obtain rfl : k = m := by omega
  have pl := r.pl
  rw [Nat.sub_self, List.replicate_zero, List.append_nil] at pl
  refine ⟨hb, pb, kb, rfl, r.ge1, r.ge2, r.ge3, ⟨?_, pl, r.ky, ?_, Nat.not_le.2 (blk_lt r.top), Nat.not_le.2 (blk_lt pl), Nat.not_le.2 (blk_lt r.ky), fun _ h => h, r.ne1, r.ne2, r.ne3, by simpa [Hp.new] using hm, by simp [Hp.new], by simp [Hp.new]⟩, r.bel⟩
  · simp only [Hp.new, List.length_replicate]; exact r.top
  · exact ⟨⟨rfl, .inl ⟨rfl, rfl⟩⟩, fun k hk => by simp [Value.ownBlock] at hk⟩

theorem NewRel.cells {m : Nat} {w : World} {hb pb kb k : Nat} {wr : World} (r : NewRel m w hb pb kb k wr) (h : k < m) :
    wr.cell? ⟨hb, 1, none⟩ = some (.slice (some ⟨pb, 0, none⟩) m m) ∧ (∃ u, wr.cell? ⟨pb, k, none⟩ = some u) ∧ wr.frozen? ⟨pb, k, none⟩ = false :=
  ⟨blk_cell r.top rfl, ⟨_, blk_cell r.pl (ints_get _ k (by simp; omega))⟩, blk_free r.pl k⟩

theorem newRel_start (m : Nat) (w : World) : NewRel m w (w.heap.size + 1 + 1) w.heap.size (w.heap.size + 1) 0
      (((w.alloc (.cells (zeros m) 3)).alloc (.cells (zeros m) 3)).alloc (.cells #[.slice none 0 0, .slice (some ⟨w.heap.size, 0, none⟩) m m, .slice (some ⟨w.heap.size + 1, 0, none⟩) m m] 46)).drew ∧
    NewRel m w (w.heap.size + 1 + 1) (w.heap.size + 1) w.heap.size 0
      (((w.alloc (.cells (zeros m) 3)).alloc (.cells (zeros m) 3)).alloc (.cells #[.slice none 0 0, .slice (some ⟨w.heap.size + 1, 0, none⟩) m m, .slice (some ⟨w.heap.size, 0, none⟩) m m] 46)).drew := by
  constructor
  · obtain ⟨a, b, c⟩ := alloc3 w (.cells (zeros m) 3) (.cells (zeros m) 3) (.cells #[.slice none 0 0, .slice (some ⟨w.heap.size, 0, none⟩) m m, .slice (some ⟨w.heap.size + 1, 0, none⟩) m m] 46)
    exact ⟨Nat.zero_le _, c, by simpa [zeros] using a, b, alloc3_below .., by omega, by omega, by omega, by omega, by omega, by omega⟩
  · obtain ⟨a, b, c⟩ := alloc3 w (.cells (zeros m) 3) (.cells (zeros m) 3) (.cells #[.slice none 0 0, .slice (some ⟨w.heap.size + 1, 0, none⟩) m m, .slice (some ⟨w.heap.size, 0, none⟩) m m] 46)
    exact ⟨Nat.zero_le _, c, by simpa [zeros] using b, a, alloc3_below .., by omega, by omega, by omega, by omega, by omega, by omega⟩

theorem NewRel.cells0 {m : Nat} {w : World} {hb pb kb k : Nat} {wr : World} (r : NewRel m w hb pb kb k wr) : wr.cell? ⟨hb, 1, none⟩ = some (.slice (some ⟨pb, 0, none⟩) m m) := blk_cell r.top rfl

set_option maxHeartbeats 1000000 in
theorem new_mid (n : Int) (h0 : 0 ≤ n) (h1 : n ≤ 65536) (w : World) : Calls Try.prog 9 #[.int .i64 n] w (NewPost (n.toNat) w) := by
  skip
  have mk1 := make_ints n (n.toNat) (by omega) (by omega)
  skip
  have s1 := Lib.hid (newRel_start (n.toNat) w).1
  have s2 := Lib.hid (newRel_start (n.toNat) w).2
  go_enter Try.func9, Try.ntmps9
  go_wp2_with fail
  go_region
  · clear s2
    have c1 : _ := (s1.out.cells0)
    generalize hW : World.drew _ = W at c1 s1 ⊢
    have R0 := Lib.hid s1.out
    clear hW s1
    go_wp2_with fail
    go_loopw [19] (fun t wr => ∃ k : Nat, t = .int .i64 k ∧ NewRel (n.toNat) w (w.heap.size + 1 + 1) (w.heap.size) (w.heap.size + 1) k wr) (fun t _ => n.toNat - (intOf t).toNat)
    case atStart => exact ⟨0, rfl, R0.out⟩
    case round =>
      obtain ⟨k, rfl, rr⟩ := hrel
      have hk := rr.hk
      by_cases c : k < n.toNat
      · obtain ⟨d1, ⟨u, d2⟩, d3⟩ := rr.cells c
        have RN := rr.next c
        clear rr
        go_wp2_with fail
        go_roundw
        case rel => exact ⟨k + 1, by go_num, RN⟩
        case measure => simp [intOf]; omega
      · have PO := Lib.hid (rr.post (by omega) c)
        clear rr
        go_wp2_with fail
        go_ret
        exact PO.out
  · clear s1
    have c1 : _ := (s2.out.cells0)
    generalize hW : World.drew _ = W at c1 s2 ⊢
    have R0 := Lib.hid s2.out
    clear hW s2
    go_wp2_with fail
    go_loopw [19] (fun t wr => ∃ k : Nat, t = .int .i64 k ∧ NewRel (n.toNat) w (w.heap.size + 1 + 1) (w.heap.size + 1) (w.heap.size) k wr) (fun t _ => n.toNat - (intOf t).toNat)
    case atStart => exact ⟨0, rfl, R0.out⟩
    case round =>
      obtain ⟨k, rfl, rr⟩ := hrel
      have hk := rr.hk
      by_cases c : k < n.toNat
      · obtain ⟨d1, ⟨u, d2⟩, d3⟩ := rr.cells c
        have RN := rr.next c
        clear rr
        go_wp2_with fail
        go_roundw
        case rel => exact ⟨k + 1, by go_num, RN⟩
        case measure => simp [intOf]; omega
      · have PO := Lib.hid (rr.post (by omega) c)
        clear rr
        go_wp2_with fail
        go_ret
        exact PO.out

set_option maxHeartbeats 1000000 in
theorem new_lo (n : Int) (h0 : n < 0) (m : Nat) (hm : (0 : Int) = m) (w : World) : Calls Try.prog 9 #[.int .i64 n] w (NewPost (m) w) := by
  have m1 : m ≤ 65536 := by omega
  have mk1 := make_ints 0 (m) (by omega) (by omega)
  clear hm
  have s1 := Lib.hid (newRel_start (m) w).1
  have s2 := Lib.hid (newRel_start (m) w).2
  go_enter Try.func9, Try.ntmps9
  go_wp2_with fail
  go_region
  · clear s2
    have c1 : _ := (s1.out.cells0)
    generalize hW : World.drew _ = W at c1 s1 ⊢
    have R0 := Lib.hid s1.out
    clear hW s1
    go_wp2_with fail
    go_loopw [19] (fun t wr => ∃ k : Nat, t = .int .i64 k ∧ NewRel (m) w (w.heap.size + 1 + 1) (w.heap.size) (w.heap.size + 1) k wr) (fun t _ => m - (intOf t).toNat)
    case atStart => exact ⟨0, rfl, R0.out⟩
    case round =>
      obtain ⟨k, rfl, rr⟩ := hrel
      have hk := rr.hk
      by_cases c : k < m
      · obtain ⟨d1, ⟨u, d2⟩, d3⟩ := rr.cells c
        have RN := rr.next c
        clear rr
        go_wp2_with fail
        go_roundw
        case rel => exact ⟨k + 1, by go_num, RN⟩
        case measure => simp [intOf]; omega
      · have PO := Lib.hid (rr.post (by omega) c)
        clear rr
        go_wp2_with fail
        go_ret
        exact PO.out
  · clear s1
    have c1 : _ := (s2.out.cells0)
    generalize hW : World.drew _ = W at c1 s2 ⊢
    have R0 := Lib.hid s2.out
    clear hW s2
    go_wp2_with fail
    go_loopw [19] (fun t wr => ∃ k : Nat, t = .int .i64 k ∧ NewRel (m) w (w.heap.size + 1 + 1) (w.heap.size + 1) (w.heap.size) k wr) (fun t _ => m - (intOf t).toNat)
    case atStart => exact ⟨0, rfl, R0.out⟩
    case round =>
      obtain ⟨k, rfl, rr⟩ := hrel
      have hk := rr.hk
      by_cases c : k < m
      · obtain ⟨d1, ⟨u, d2⟩, d3⟩ := rr.cells c
        have RN := rr.next c
        clear rr
        go_wp2_with fail
        go_roundw
        case rel => exact ⟨k + 1, by go_num, RN⟩
        case measure => simp [intOf]; omega
      · have PO := Lib.hid (rr.post (by omega) c)
        clear rr
        go_wp2_with fail
        go_ret
        exact PO.out

set_option maxHeartbeats 1000000 in
theorem new_hi (n : Int) (h0 : 65536 < n) (m : Nat) (hm : (65536 : Int) = m) (w : World) : Calls Try.prog 9 #[.int .i64 n] w (NewPost (m) w) := by
  have m1 : m ≤ 65536 := by omega
  have mk1 := make_ints 65536 (m) (by omega) (by omega)
  clear hm
  have s1 := Lib.hid (newRel_start (m) w).1
  have s2 := Lib.hid (newRel_start (m) w).2
  go_enter Try.func9, Try.ntmps9
  go_wp2_with fail
  go_region
  · clear s2
    have c1 : _ := (s1.out.cells0)
    generalize hW : World.drew _ = W at c1 s1 ⊢
    have R0 := Lib.hid s1.out
    clear hW s1
    go_wp2_with fail
    go_loopw [19] (fun t wr => ∃ k : Nat, t = .int .i64 k ∧ NewRel (m) w (w.heap.size + 1 + 1) (w.heap.size) (w.heap.size + 1) k wr) (fun t _ => m - (intOf t).toNat)
    case atStart => exact ⟨0, rfl, R0.out⟩
    case round =>
      obtain ⟨k, rfl, rr⟩ := hrel
      have hk := rr.hk
      by_cases c : k < m
      · obtain ⟨d1, ⟨u, d2⟩, d3⟩ := rr.cells c
        have RN := rr.next c
        clear rr
        go_wp2_with fail
        go_roundw
        case rel => exact ⟨k + 1, by go_num, RN⟩
        case measure => simp [intOf]; omega
      · have PO := Lib.hid (rr.post (by omega) c)
        clear rr
        go_wp2_with fail
        go_ret
        exact PO.out
  · clear s1
    have c1 : _ := (s2.out.cells0)
    generalize hW : World.drew _ = W at c1 s2 ⊢
    have R0 := Lib.hid s2.out
    clear hW s2
    go_wp2_with fail
    go_loopw [19] (fun t wr => ∃ k : Nat, t = .int .i64 k ∧ NewRel (m) w (w.heap.size + 1 + 1) (w.heap.size + 1) (w.heap.size) k wr) (fun t _ => m - (intOf t).toNat)
    case atStart => exact ⟨0, rfl, R0.out⟩
    case round =>
      obtain ⟨k, rfl, rr⟩ := hrel
      have hk := rr.hk
      by_cases c : k < m
      · obtain ⟨d1, ⟨u, d2⟩, d3⟩ := rr.cells c
        have RN := rr.next c
        clear rr
        go_wp2_with fail
        go_roundw
        case rel => exact ⟨k + 1, by go_num, RN⟩
        case measure => simp [intOf]; omega
      · have PO := Lib.hid (rr.post (by omega) c)
        clear rr
        go_wp2_with fail
        go_ret
        exact PO.out

theorem new_rep (n : Int) (w : World) : Calls Try.prog 9 #[.int .i64 n] w (NewPost (clampN n) w) := by
  by_cases h : n < 0
  · rw [show clampN n = 0 from by unfold clampN; omega]; exact new_lo n h 0 rfl w
  · by_cases h2 : 65536 < n
    · rw [show clampN n = 65536 from by unfold clampN; omega]; exact new_hi n h2 65536 rfl w
    · rw [show clampN n = n.toNat from by unfold clampN; omega]; exact new_mid n (by omega) (by omega) w

end Go.Proofs.Ytnlcckajldkchaa
