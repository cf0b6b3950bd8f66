/-
  The walks through the reference's methods: a table that is searched from the beginning.
-/
import Derived.Test.YtnlcckajldkchaaAwk
namespace Go.Proofs.Ytnlcckajldkchaa
open Go.RowKit

theorem RT.cin {hb ib kb : Nat} {w : World} {t : Hp.Tb} (r : RT hb ib kb w t) {i : Nat} (h : i < t.ins.length) : w.cell? ⟨ib, i, none⟩ = some (.bool (t.ins.getD i false)) := blk_cell r.ins (bools_get _ _ h)
theorem RT.ck {hb ib kb : Nat} {w : World} {t : Hp.Tb} (r : RT hb ib kb w t) {i : Nat} (h : i < t.ins.length) : w.cell? ⟨kb, i, none⟩ = some (.int .i64 (t.keys.getD i 0)) := blk_cell r.ky (ints_get _ _ (by rw [r.lk]; exact h))
theorem RT.c0 {hb ib kb : Nat} {w : World} {t : Hp.Tb} (r : RT hb ib kb w t) : w.cell? ⟨hb, 0, none⟩ = some (.slice (some ⟨ib, 0, none⟩) t.ins.length t.ins.length) := blk_cell r.top rfl
theorem RT.c1 {hb ib kb : Nat} {w : World} {t : Hp.Tb} (r : RT hb ib kb w t) : w.cell? ⟨hb, 1, none⟩ = some (.slice (some ⟨kb, 0, none⟩) t.ins.length t.ins.length) := blk_cell r.top rfl

theorem RT.other {hb ib kb : Nat} {w w' : World} {t : Hp.Tb} (r : RT hb ib kb w t) (h : ∀ k, k = hb ∨ k = ib ∨ k = kb → w'.heap[k]? = w.heap[k]?) : RT hb ib kb w' t :=
  ⟨(h hb (.inl rfl)).trans r.top, (h ib (.inr (.inl rfl))).trans r.ins, (h kb (.inr (.inr rfl))).trans r.ky, r.ne1, r.ne2, r.ne3, r.small, r.lk⟩

/-- only the table's own blocks may have turned -/
structure FrT (ib kb : Nat) (w w' : World) : Prop where
  os : w'.os = w.os
  tape : w'.tape = w.tape
  output : w'.output = w.output
  size : w'.heap.size = w.heap.size
  block : ∀ k, k ≠ ib → k ≠ kb → w'.heap[k]? = w.heap[k]?

theorem FrT.refl (ib kb : Nat) (w : World) : FrT ib kb w w := ⟨rfl, rfl, rfl, rfl, fun _ _ _ => rfl⟩
theorem FrT.drewN {ib kb : Nat} {w w' : World} (h : FrT ib kb w w') (n : Nat) : FrT ib kb w (w'.drewN n) := ⟨h.os, h.tape, h.output, h.size, h.block⟩
theorem FrT.trans {ib kb : Nat} {a b c : World} (x : FrT ib kb a b) (y : FrT ib kb b c) : FrT ib kb a c :=
  ⟨y.os.trans x.os, y.tape.trans x.tape, y.output.trans x.output, y.size.trans x.size, fun k h1 h2 => (y.block k h1 h2).trans (x.block k h1 h2)⟩

theorem RT.set {hb ib kb : Nat} {w : World} {t : Hp.Tb} (r : RT hb ib kb w t) (x : Nat) (k : Int) : RT hb ib kb ((w.setCell ⟨ib, x, none⟩ (.bool true)).setCell ⟨kb, x, none⟩ (.int .i64 k)) (tset t x k) ∧ FrT ib kb w ((w.setCell ⟨ib, x, none⟩ (.bool true)).setCell ⟨kb, x, none⟩ (.int .i64 k)) := by
  have n1 := r.ne1; have n2 := r.ne2; have n3 := r.ne3
  refine ⟨⟨?_, ?_, ?_, n1, n2, n3, by simpa [tset] using r.small, by simpa [tset] using r.lk⟩, rfl, rfl, rfl, by simp [World.setCell], fun j h1 h2 => ?_⟩
  · rw [blk_other _ _ _ _ (by exact n2), blk_other _ _ _ _ (by exact n1)]; simp only [tset, List.length_set]; exact r.top
  · rw [blk_other _ _ _ _ (by exact n3), blk_set r.ins, bools_set]; rfl
  · rw [blk_set (by rw [blk_other _ _ _ _ (by exact n3.symm)]; exact r.ky), ints_set]; rfl
  · rw [blk_other _ _ _ _ (by exact h2), blk_other _ _ _ _ (by exact h1)]

theorem RT.drop {hb ib kb : Nat} {w : World} {t : Hp.Tb} (r : RT hb ib kb w t) (x : Nat) : RT hb ib kb (w.setCell ⟨ib, x, none⟩ (.bool false)) (tdrop t x) ∧ FrT ib kb w (w.setCell ⟨ib, x, none⟩ (.bool false)) := by
  have n1 := r.ne1; have n2 := r.ne2; have n3 := r.ne3
  refine ⟨⟨?_, ?_, ?_, n1, n2, n3, by simpa [tdrop] using r.small, by simpa [tdrop] using r.lk⟩, rfl, rfl, rfl, by simp [World.setCell], fun j h1 h2 => ?_⟩
  · rw [blk_other _ _ _ _ (by exact n1)]; simp only [tdrop, List.length_set]; exact r.top
  · rw [blk_set r.ins, bools_set]; rfl
  · rw [blk_other _ _ _ _ (by exact n3.symm)]; exact r.ky
  · rw [blk_other _ _ _ _ (by exact h1)]

set_option maxHeartbeats 400000 in
theorem rhas_yes {hb ib kb : Nat} {w : World} {t : Hp.Tb} (r : RT hb ib kb w t) (x : Int) (h0 : 0 ≤ x) (h1 : x < t.ins.length) :
    Calls Try.prog 28 #[.pointer (some ⟨hb, 0, none⟩), .int .i64 x] w fun e w' => e = .returned (.bool true) ∧ w = w' := by
  have c0 := r.c0
  have d1 : decide (x < (t.ins.length : Int)) = true := by simpa using h1
  go_enter Try.func28, Try.ntmps28
  go_wp2
  go_ret
  exact ⟨rfl, rfl⟩

set_option maxHeartbeats 400000 in
theorem rhas_no {hb ib kb : Nat} {w : World} {t : Hp.Tb} (r : RT hb ib kb w t) (x : Int) (h : x < 0 ∨ (t.ins.length : Int) ≤ x) :
    Calls Try.prog 28 #[.pointer (some ⟨hb, 0, none⟩), .int .i64 x] w fun e w' => e = .returned (.bool false) ∧ w = w' := by
  have c0 := r.c0
  rcases h with h | h
  · go_enter Try.func28, Try.ntmps28
    go_wp2
    go_ret
    exact ⟨rfl, rfl⟩
  · have h0 : (0 : Int) ≤ x := by omega
    have d1 : decide (x < (t.ins.length : Int)) = false := by simp; omega
    go_enter Try.func28, Try.ntmps28
    go_wp2
    go_ret
    exact ⟨rfl, rfl⟩

/-- the call answered r, and now there is the table t -/
def RPost (hb ib kb : Nat) (w : World) (r : Value) (t : Hp.Tb) (e : Ending) (w' : World) : Prop :=
  e = .returned r ∧ RT hb ib kb w' t ∧ FrT ib kb w w'

set_option maxHeartbeats 400000 in
theorem rset {hb ib kb : Nat} {w : World} {t : Hp.Tb} (r : RT hb ib kb w t) (x k : Int) :
    Calls Try.prog 26 #[.pointer (some ⟨hb, 0, none⟩), .int .i64 x, .int .i64 k] w (RPost hb ib kb w (.bool (tin t x)) (if tin t x then tset t x.toNat k else t)) := by
  cases c : tin t x with
  | true =>
    rw [if_pos rfl]
    simp only [tin, Bool.and_eq_true, decide_eq_true_eq] at c
    obtain ⟨h0, h1⟩ := c
    obtain ⟨x, rfl⟩ := Int.eq_ofNat_of_zero_le h0
    rw [Int.toNat_natCast]
    have hx : x < t.ins.length := by omega
    have sm := r.small
    have RS := r.set x k
    have c0 := r.c0
    have ci := r.cin hx
    have fi := blk_free r.ins x
    have c1 := (World.cell?_of_block (a := ⟨hb, 1, none⟩) (blk_other w ⟨ib, x, none⟩ (.bool true) hb r.ne1)).trans r.c1
    have ck := (World.cell?_of_block (a := ⟨kb, x, none⟩) (blk_other w ⟨ib, x, none⟩ (.bool true) kb r.ne3.symm)).trans (r.ck hx)
    have fk := blk_free r.ky x
    go_enter Try.func26, Try.ntmps26
    go_wp2_with fail
    refine (rhas_yes r x h0 h1).mono ?_
    rintro e w' ⟨rfl, rfl⟩
    go_wp2_with fail
    go_ret
    exact ⟨rfl, RS⟩
  | false =>
    rw [if_neg (by simp)]
    have c : x < 0 ∨ (t.ins.length : Int) ≤ x := by simp only [tin, Bool.and_eq_false_iff, decide_eq_false_iff_not] at c; omega
    have C := Lib.hid c
    clear c
    go_enter Try.func26, Try.ntmps26
    go_wp2_with fail
    refine (rhas_no r x C.out).mono ?_
    rintro e w' ⟨rfl, rfl⟩
    go_wp2_with fail
    go_ret
    exact ⟨rfl, r, FrT.refl ..⟩

theorem thas_cases (t : Hp.Tb) (x : Int) : (tin t x = false ∧ thas t x = false) ∨ (∃ n : Nat, x = n ∧ n < t.ins.length ∧ thas t x = t.ins.getD n false) := by
  cases c : tin t x with
  | false => exact .inl ⟨rfl, by simp [thas, c]⟩
  | true =>
    refine .inr ⟨x.toNat, ?_, ?_, by simp [thas, c]⟩
    · simp only [tin, Bool.and_eq_true, decide_eq_true_eq] at c; omega
    · simp only [tin, Bool.and_eq_true, decide_eq_true_eq] at c; omega

set_option maxHeartbeats 800000 in
theorem rkey {hb ib kb : Nat} {w : World} {t : Hp.Tb} (r : RT hb ib kb w t) (x : Int) :
    Calls Try.prog 25 #[.pointer (some ⟨hb, 0, none⟩), .int .i64 x] w fun e w' => e = .returned (.tuple #[.int .i64 (if thas t x then t.keys.getD x.toNat 0 else 0), .bool (thas t x)]) ∧ w = w' := by
  have sm := r.small
  rcases thas_cases t x with ⟨c1, c2⟩ | ⟨n, rfl, hn, e⟩
  · rw [c2, if_neg (by simp)]
    have c : x < 0 ∨ (t.ins.length : Int) ≤ x := by simp only [tin, Bool.and_eq_false_iff, decide_eq_false_iff_not] at c1; omega
    have C := Lib.hid c
    clear c c1 c2
    go_enter Try.func25, Try.ntmps25
    go_wp2_with fail
    refine (rhas_no r x C.out).mono ?_
    rintro e w' ⟨rfl, rfl⟩
    go_wp2_with fail
    go_ret2
    exact ⟨rfl, rfl⟩
  · rw [e, Int.toNat_natCast]
    have c0 := r.c0
    have c1 := r.c1
    have ci := r.cin hn
    have ck := r.ck hn
    clear e
    generalize t.keys.getD n 0 = kv at ck ⊢
    generalize t.ins.getD n false = bv at ci ⊢
    cases bv with
    | true =>
      rw [if_pos rfl]
      go_enter Try.func25, Try.ntmps25
      go_wp2_with fail
      refine (rhas_yes r n (by omega) (by omega)).mono ?_
      rintro e w' ⟨rfl, rfl⟩
      go_wp2_with fail
      go_ret2
      exact ⟨rfl, rfl⟩
    | false =>
      rw [if_neg (by simp)]
      go_enter Try.func25, Try.ntmps25
      go_wp2_with fail
      refine (rhas_yes r n (by omega) (by omega)).mono ?_
      rintro e w' ⟨rfl, rfl⟩
      go_wp2_with fail
      go_ret2
      exact ⟨rfl, rfl⟩

set_option maxHeartbeats 800000 in
theorem rdrop {hb ib kb : Nat} {w : World} {t : Hp.Tb} (r : RT hb ib kb w t) (x : Int) :
    Calls Try.prog 24 #[.pointer (some ⟨hb, 0, none⟩), .int .i64 x] w (RPost hb ib kb w (.bool (thas t x)) (if thas t x then tdrop t x.toNat else t)) := by
  have sm := r.small
  rcases thas_cases t x with ⟨c1, c2⟩ | ⟨n, rfl, hn, e⟩
  · rw [c2, if_neg (by simp)]
    have c : x < 0 ∨ (t.ins.length : Int) ≤ x := by simp only [tin, Bool.and_eq_false_iff, decide_eq_false_iff_not] at c1; omega
    have C := Lib.hid c
    clear c c1 c2
    go_enter Try.func24, Try.ntmps24
    go_wp2_with fail
    refine (rhas_no r x C.out).mono ?_
    rintro e w' ⟨rfl, rfl⟩
    go_wp2_with fail
    go_ret
    exact ⟨rfl, r, FrT.refl ..⟩
  · rw [e, Int.toNat_natCast]
    have c0 := r.c0
    have ci := r.cin hn
    have fi := blk_free r.ins n
    have RD := r.drop n
    clear e
    generalize t.ins.getD n false = bv at ci ⊢
    cases bv with
    | true =>
      rw [if_pos rfl]
      go_enter Try.func24, Try.ntmps24
      go_wp2_with fail
      refine (rhas_yes r n (by omega) (by omega)).mono ?_
      rintro e w' ⟨rfl, rfl⟩
      go_wp2_with fail
      go_ret
      exact ⟨rfl, RD⟩
    | false =>
      rw [if_neg (by simp)]
      clear RD
      go_enter Try.func24, Try.ntmps24
      go_wp2_with fail
      refine (rhas_yes r n (by omega) (by omega)).mono ?_
      rintro e w' ⟨rfl, rfl⟩
      go_wp2_with fail
      go_ret
      exact ⟨rfl, r, FrT.refl ..⟩

theorem count_take' (l : List Bool) (k : Nat) (h : k < l.length) : (l.take (k + 1)).count true = (l.take k).count true + if l.getD k false then 1 else 0 := by
  rw [List.take_add_one, List.count_append, List.getD_eq_getElem?_getD, List.getElem?_eq_getElem h]
  cases l[k] <;> simp

set_option maxHeartbeats 800000 in
theorem rlen {hb ib kb : Nat} {w : World} {t : Hp.Tb} (r : RT hb ib kb w t) :
    Calls Try.prog 15 #[.pointer (some ⟨hb, 0, none⟩)] w fun e w' => e = .returned (.int .i64 (tlen t : Nat)) ∧ w = w' := by
  have sm := r.small
  have c0 := r.c0
  go_enter Try.func15, Try.ntmps15
  go_wp2_with fail
  go_loop [3, 13] (fun n i => ∃ k : Nat, k ≤ t.ins.length ∧ i = .int .i64 k ∧ n = .int .i64 ((t.ins.take k).count true : Nat)) (fun _ i => t.ins.length - (intOf i).toNat)
  case atStart => exact ⟨0, Nat.zero_le _, rfl, rfl⟩
  case round =>
    obtain ⟨k, hk, rfl, rfl⟩ := hrel
    have cb : (t.ins.take k).count true ≤ k := Nat.le_trans List.count_le_length (List.length_take_le _ _)
    by_cases c : k < t.ins.length
    · have ci := r.cin c
      have CT := Lib.hid (count_take' t.ins k c)
      generalize t.ins.getD k false = bv at CT ci
      generalize (t.ins.take k).count true = cn at CT cb
      cases bv with
      | true =>
        go_wp2_with fail
        go_round
        case rel => exact ⟨k + 1, c, by go_num, by rw [CT.out]; go_num⟩
        case measure => simp [intOf]; omega
      | false =>
        go_wp2_with fail
        go_round
        case rel => exact ⟨k + 1, c, by go_num, by rw [CT.out]; go_num⟩
        case measure => simp [intOf]; omega
    · have TL : Hid (tlen t = (t.ins.take k).count true) := Lib.hid (by unfold tlen; rw [List.take_of_length_le (by omega)])
      generalize (t.ins.take k).count true = cn at TL cb
      go_wp2_with fail
      go_ret
      exact ⟨by rw [TL.out]; rfl, rfl⟩

/-- what holds at the head of the loop of Min -/
def MinRel (t : Hp.Tb) (hb ib kb : Nat) (w : World) (k a : Nat) (b : Int) (c : Bool) (wr : World) : Prop := k ≤ t.ins.length ∧ Hp.mn t k = (a, b, c) ∧ RT hb ib kb wr t ∧ FrT ib kb w wr

theorem MinRel.take {t : Hp.Tb} {hb ib kb : Nat} {w : World} {k a : Nat} {b : Int} {c : Bool} {wr : World} (m : MinRel t hb ib kb w k a b c wr) (hk : k < t.ins.length) (h : t.ins.getD k false = true) (h2 : c = false ∨ t.keys.getD k 0 < b) (n : Nat) : MinRel t hb ib kb w (k + 1) k (t.keys.getD k 0) true (wr.drewN n) := by
  obtain ⟨_, m2, m3, m4⟩ := m
  refine ⟨hk, ?_, m3.other fun _ _ => rfl, m4.drewN n⟩
  simp only [Hp.mn, m2]; rw [if_pos ⟨h, h2⟩]
theorem MinRel.skip {t : Hp.Tb} {hb ib kb : Nat} {w : World} {k a : Nat} {b : Int} {c : Bool} {wr : World} (m : MinRel t hb ib kb w k a b c wr) (hk : k < t.ins.length) (h : t.ins.getD k false = false ∨ (c = true ∧ ¬ t.keys.getD k 0 < b)) : MinRel t hb ib kb w (k + 1) a b c wr := by
  obtain ⟨_, m2, m3, m4⟩ := m
  refine ⟨hk, ?_, m3, m4⟩
  simp only [Hp.mn, m2]
  rw [if_neg]
  rintro ⟨h1, h2⟩
  rcases h with h | ⟨h, h'⟩
  · rw [h] at h1; cases h1
  · rcases h2 with h2 | h2
    · rw [h] at h2; cases h2
    · exact h' h2

set_option maxHeartbeats 1000000 in
theorem rmin {hb ib kb : Nat} {w : World} {t : Hp.Tb} (r : RT hb ib kb w t) :
    Calls Try.prog 23 #[.pointer (some ⟨hb, 0, none⟩)] w (RPost hb ib kb w (trip (tmin t)) t) := by
  have sm := r.small
  have c0 := r.c0
  go_enter Try.func23, Try.ntmps23
  go_wp2_with fail
  go_loopw [2, 3, 4, 14] (fun x y z i wr => ∃ (k a : Nat) (b : Int) (c : Bool), x = .int .i64 a ∧ y = .int .i64 b ∧ z = .bool c ∧ i = .int .i64 k ∧ MinRel t hb ib kb w k a b c wr) (fun _ _ _ i _ => t.ins.length - (intOf i).toNat)
  case atStart => exact ⟨0, 0, 0, false, rfl, rfl, rfl, rfl, Nat.zero_le _, rfl, r, FrT.refl ..⟩
  case round =>
    clear c0
    obtain ⟨k, a, b, c, rfl, rfl, rfl, rfl, m⟩ := hrel
    have hk := m.1
    have rr := m.2.2.1
    have c0 := rr.c0
    have c1 := rr.c1
    by_cases ck : k < t.ins.length
    · have ci := rr.cin ck
      have ckk := rr.ck ck
      have TK := Lib.hid (m.take ck)
      have SK := Lib.hid (m.skip ck)
      clear rr m
      have ck' : (k : Int) < (t.ins.length : Int) := by omega
      generalize t.ins.getD k false = bv at ci TK SK
      generalize t.keys.getD k 0 = kv at ckk TK SK
      cases bv with
      | false =>
        have REL := SK.out (.inl rfl)
        clear TK SK
        go_wp2_with fail
        go_roundw
        case rel => exact ⟨k + 1, a, b, c, rfl, rfl, rfl, by go_num, REL⟩
        case measure => simp [intOf]; omega
      | true =>
        cases c with
        | false =>
          have REL := Lib.hid (TK.out rfl (.inl rfl))
          clear TK SK
          go_wp2_with fail
          go_quiet (fail)
          have REL := REL.out nq
          go_wp2_with fail
          go_roundw
          case rel => exact ⟨k + 1, k, kv, true, rfl, rfl, rfl, by go_num, REL⟩
          case measure => simp [intOf]; omega
        | true =>
          by_cases lt : kv < b
          · have REL := Lib.hid (TK.out rfl (.inr lt))
            clear TK SK
            go_wp2_with fail
            go_quiet (fail)
            have REL := REL.out nq
            go_wp2_with fail
            go_roundw
            case rel => exact ⟨k + 1, k, kv, true, rfl, rfl, rfl, by go_num, REL⟩
            case measure => simp [intOf]; omega
          · have REL := SK.out (.inr ⟨rfl, lt⟩)
            have d1 : decide (kv < b) = false := by simpa using lt
            clear TK SK
            go_wp2_with fail
            go_roundw
            case rel => exact ⟨k + 1, a, b, true, rfl, rfl, rfl, by go_num, REL⟩
            case measure => simp [intOf]; omega
    · obtain ⟨_, m2, m3, m4⟩ := m
      have E : Hid (trip (tmin t) = .tuple #[.int .i64 a, .int .i64 b, .bool c]) := Lib.hid (by unfold tmin; rw [show t.ins.length = k from by omega, m2]; rfl)
      clear m2 rr
      go_wp2_with fail
      go_ret3
      exact ⟨by rw [E.out]; rfl, m3, m4⟩

set_option maxHeartbeats 400000 in
theorem rpop {hb ib kb : Nat} {w : World} {t : Hp.Tb} (r : RT hb ib kb w t) :
    Calls Try.prog 22 #[.pointer (some ⟨hb, 0, none⟩)] w (RPost hb ib kb w (trip (tmin t)) (tpop t)) := by
  have sm := r.small
  cases c : (tmin t).2.2 with
  | true =>
    have ha := tmin_has t c
    have hx : (tmin t).1 < t.ins.length := ((Hp.mn_ok t t.ins.length).2 c).1
    have PO : Hid (tpop t = tdrop t (tmin t).1) := Lib.hid (by unfold tpop; rw [c]; rfl)
    have TR : Hid (trip (tmin t) = .tuple #[.int .i64 ((tmin t).1 : Nat), .int .i64 (tmin t).2.1, .bool true]) := Lib.hid (by unfold trip; rw [c])
    have R := Lib.hid r
    clear c r ha
    rw [PO.out, TR.out]
    generalize (tmin t).1 = x at hx TR PO ⊢
    go_enter Try.func22, Try.ntmps22
    go_wp2_with fail
    refine (rmin R.out).mono ?_
    rintro e w1 ⟨rfl, r1, f1⟩
    rw [TR.out]
    have c0 := r1.c0
    have ci := r1.cin hx
    have fi := blk_free r1.ins x
    obtain ⟨r2, f2⟩ := r1.drop x
    have F := f1.trans f2
    clear f1 f2 r1
    go_wp2_with fail
    go_ret3
    exact ⟨rfl, r2, F⟩
  | false =>
    have PO : Hid (tpop t = t) := Lib.hid (by unfold tpop; rw [c]; rfl)
    have TR : Hid (trip (tmin t) = .tuple #[.int .i64 ((tmin t).1 : Nat), .int .i64 (tmin t).2.1, .bool false]) := Lib.hid (by unfold trip; rw [c])
    have R := Lib.hid r
    clear c r
    rw [PO.out, TR.out]
    go_enter Try.func22, Try.ntmps22
    go_wp2_with fail
    refine (rmin R.out).mono ?_
    rintro e w1 ⟨rfl, r1, f1⟩
    rw [TR.out]
    go_wp2_with fail
    go_ret3
    exact ⟨rfl, r1, f1⟩

end Go.Proofs.Ytnlcckajldkchaa
