/-
  The heap's methods, told in the words of the table alone; and the law file's own 'awake'.
-/
import Derived.Test.YtnlcckajldkchaaWkf
namespace Go.Proofs.Ytnlcckajldkchaa
open Go.RowKit

/-- at hb lies a heap that answers as the table t does -/
def HT (base : Nat → Prop) (hb pb kb : Nat) (w : World) (t : Hp.Tb) : Prop := ∃ v s, Rep base hb pb kb w v s ∧ Hp.Rel s t

theorem HT.heap {base : Nat → Prop} {hb pb kb : Nat} {w w' : World} {t : Hp.Tb} (h : HT base hb pb kb w t) (e : w'.heap = w.heap) : HT base hb pb kb w' t := by
  obtain ⟨v, s, r, R⟩ := h; exact ⟨v, s, r.heap e, R⟩
theorem HT.drewN {base : Nat → Prop} {hb pb kb : Nat} {w : World} {t : Hp.Tb} (h : HT base hb pb kb w t) (n : Nat) : HT base hb pb kb (w.drewN n) t := h.heap rfl

theorem HT.small {base : Nat → Prop} {hb pb kb : Nat} {w : World} {t : Hp.Tb} (h : HT base hb pb kb w t) : t.ins.length ≤ 65536 ∧ t.keys.length = t.ins.length := by
  obtain ⟨v, s, r, R⟩ := h; have := r.small; rw [← R.li] at this; exact ⟨this, by rw [R.lk, R.li]⟩

/-- of an empty heap the items may begin anywhere -/
theorem HT.first {hb pb kb n : Nat} {w w' : World} {base : Nat → Prop} (r : Rep base hb pb kb w (.slice none 0 0) (Hp.new n)) (h : ∀ k, k = hb ∨ k = pb ∨ k = kb → w'.heap[k]? = w.heap[k]?) : HT (fun k => w'.heap.size ≤ k) hb pb kb w' (tnew n) := by
  have e1 := (h hb (.inl rfl)).trans r.top
  have e2 := (h pb (.inr (.inl rfl))).trans r.pl
  have e3 := (h kb (.inr (.inr rfl))).trans r.ky
  exact ⟨_, _, ⟨e1, e2, e3, ⟨⟨rfl, .inl ⟨rfl, rfl⟩⟩, fun k hk => by simp [Value.ownBlock] at hk⟩, Nat.not_le.2 (blk_lt e1), Nat.not_le.2 (blk_lt e2), Nat.not_le.2 (blk_lt e3), fun _ h => h, r.ne1, r.ne2, r.ne3, r.small, r.len, r.lk⟩, Hp.Rel.new n⟩

/-! ### What the table answers -/

def tset (t : Hp.Tb) (x : Nat) (k : Int) : Hp.Tb := ⟨t.ins.set x true, t.keys.set x k⟩
def tdrop (t : Hp.Tb) (x : Nat) : Hp.Tb := ⟨t.ins.set x false, t.keys⟩
def tmin (t : Hp.Tb) : Nat × Int × Bool := Hp.mn t t.ins.length
def tpop (t : Hp.Tb) : Hp.Tb := if (tmin t).2.2 then tdrop t (tmin t).1 else t
def tin (t : Hp.Tb) (x : Int) : Bool := decide (0 ≤ x) && decide (x < t.ins.length)
def thas (t : Hp.Tb) (x : Int) : Bool := tin t x && t.ins.getD x.toNat false
def tlen (t : Hp.Tb) : Nat := t.ins.count true

/-- the call answered r, and now there is a heap like the table t -/
def HPost (base : Nat → Prop) (hb pb kb : Nat) (w : World) (r : Value) (t : Hp.Tb) (e : Ending) (w' : World) : Prop :=
  e = .returned r ∧ HT base hb pb kb w' t ∧ Fr base hb pb kb w w'

theorem hset {base : Nat → Prop} {hb pb kb : Nat} {w : World} {t : Hp.Tb} (h : HT base hb pb kb w t) (x k : Int) :
    Calls Try.prog 10 #[.pointer (some ⟨hb, 0, none⟩), .int .i64 x, .int .i64 k] w (HPost base hb pb kb w (.bool (tin t x)) (if tin t x then tset t x.toNat k else t)) := by
  obtain ⟨v, s, r, R⟩ := h
  have li := R.li
  by_cases c : tin t x = true
  · rw [c, if_pos rfl]
    simp only [tin, Bool.and_eq_true, decide_eq_true_eq] at c
    obtain ⟨x, rfl⟩ := Int.eq_ofNat_of_zero_le c.1
    have hx : x < s.place.length := by omega
    rw [Int.toNat_natCast]
    have RS := R.set hx k
    have fin : ∀ {e w'}, (e = .returned (.bool true) ∧ (∃ v', Rep base hb pb kb w' v' (Hp.set s x k)) ∧ Fr base hb pb kb w w') → HPost base hb pb kb w (.bool true) (tset t x k) e w' := by
      rintro e w' ⟨h1, ⟨v', h2⟩, h3⟩
      exact ⟨h1, ⟨v', _, h2, RS.1⟩, h3⟩
    by_cases n : s.place.getD x 0 < 0
    · have en : (Hp.put s x).items.length ≤ s.place.length := by
        have l := RS.1.cnt
        have cl := List.count_le_length (a := true) (l := t.ins.set x true)
        have : (Hp.set s x k).len = s.len + 1 := by
          have := RS.1.cnt; rw [this, Hp.count_set_true _ _ (by omega), R.cnt]
          have m := (R.mem x hx).2
          rcases R.wf.back x hx with b | b
          · rw [m b]; rfl
          · omega
        simp only [List.length_set] at cl
        rw [← l, this] at cl
        simp [Hp.put]; unfold Hp.St.len at cl; omega
      exact (set_new r R.wf x k hx n (by simpa [Hp.put] using en)).mono fun _ _ hh => fin hh
    · exact (set_old r R.wf x k hx (by omega)).mono fun _ _ hh => fin hh
  · have c' : tin t x = false := by simpa using c
    rw [c']
    simp only [tin, Bool.and_eq_false_iff, decide_eq_false_iff_not] at c'
    exact (set_no r x k (by omega)).mono fun e w' ⟨h1, h2⟩ => ⟨h1, by subst h2; exact ⟨v, s, r, R⟩, by subst h2; exact Fr.refl ..⟩

theorem thas_place {s : Hp.St} {t : Hp.Tb} (R : Hp.Rel s t) (x : Int) : (thas t x = true → 0 ≤ x ∧ x.toNat < s.place.length ∧ t.ins.getD x.toNat false = true ∧ 0 ≤ s.place.getD x.toNat 0) ∧
    (thas t x = false → x < 0 ∨ (s.place.length : Int) ≤ x ∨ s.place.getD x.toNat 0 < 0) := by
  have li := R.li
  unfold thas tin
  constructor
  · intro h
    simp only [Bool.and_eq_true, decide_eq_true_eq] at h
    have hx : x.toNat < s.place.length := by omega
    exact ⟨h.1.1, hx, h.2, (R.there hx h.2).1⟩
  · intro h
    by_cases c : 0 ≤ x ∧ x < t.ins.length
    · have hx : x.toNat < s.place.length := by omega
      simp only [c.1, c.2, decide_true, Bool.true_and] at h
      have := (R.mem _ hx).1 h
      omega
    · omega

theorem hkey {base : Nat → Prop} {hb pb kb : Nat} {w : World} {t : Hp.Tb} (h : HT base hb pb kb w t) (x : Int) :
    Calls Try.prog 17 #[.pointer (some ⟨hb, 0, none⟩), .int .i64 x] w fun e w' => e = .returned (.tuple #[.int .i64 (if thas t x then t.keys.getD x.toNat 0 else 0), .bool (thas t x)]) ∧ w = w' := by
  obtain ⟨v, s, r, R⟩ := h
  have tp := thas_place R x
  cases c : thas t x with
  | true =>
    obtain ⟨a1, a2, a3, a4⟩ := tp.1 c
    rw [if_pos rfl, R.key _ a2 a3]
    have := key_yes r x.toNat a2 a4
    rw [Int.toNat_of_nonneg a1] at this
    exact this
  | false => exact key_no r x (tp.2 c)

theorem hdrop {base : Nat → Prop} {hb pb kb : Nat} {w : World} {t : Hp.Tb} (h : HT base hb pb kb w t) (x : Int) :
    Calls Try.prog 16 #[.pointer (some ⟨hb, 0, none⟩), .int .i64 x] w (HPost base hb pb kb w (.bool (thas t x)) (if thas t x then tdrop t x.toNat else t)) := by
  obtain ⟨v, s, r, R⟩ := h
  have tp := thas_place R x
  cases c : thas t x with
  | true =>
    obtain ⟨a1, a2, a3, a4⟩ := tp.1 c
    rw [if_pos rfl]
    obtain ⟨b1, b2, b3⟩ := R.there a2 a3
    have := drop_yes r R.wf x.toNat (s.place.getD x.toNat 0).toNat ⟨a2, by omega, b2, b3⟩
    rw [Int.toNat_of_nonneg a1] at this
    refine this.mono ?_
    rintro e w' ⟨h1, ⟨v', h2⟩, h3⟩
    exact ⟨h1, ⟨v', _, h2, (R.drop a2 a3).1⟩, h3⟩
  | false => exact (drop_no r x (tp.2 c)).mono fun e w' ⟨h1, h2⟩ => ⟨h1, by subst h2; exact ⟨v, s, r, R⟩, by subst h2; exact Fr.refl ..⟩

theorem hlen {base : Nat → Prop} {hb pb kb : Nat} {w : World} {t : Hp.Tb} (h : HT base hb pb kb w t) :
    Calls Try.prog 12 #[.pointer (some ⟨hb, 0, none⟩)] w fun e w' => e = .returned (.int .i64 (tlen t : Nat)) ∧ w = w' := by
  obtain ⟨v, s, r, R⟩ := h
  have := len_rep r
  rw [R.cnt] at this; exact this

theorem hmin {base : Nat → Prop} {hb pb kb : Nat} {w : World} {t : Hp.Tb} (h : HT base hb pb kb w t) :
    Calls Try.prog 18 #[.pointer (some ⟨hb, 0, none⟩)] w (HPost base hb pb kb w (trip (tmin t)) t) := by
  obtain ⟨v, s, r, R⟩ := h
  have := min_rep r R.wf
  rw [← R.min] at this
  exact this.mono fun e w' ⟨h1, n, h2⟩ => ⟨h1, by rw [h2]; exact ⟨v, s, r.drewN n, R⟩, by rw [h2]; exact (Fr.refl ..).drewN n⟩

theorem tmin_has (t : Hp.Tb) (h : (tmin t).2.2 = true) : thas t ((tmin t).1 : Nat) = true := by
  have := (Hp.mn_ok t t.ins.length).2 h
  unfold thas tin
  simp only [Int.toNat_natCast, Bool.and_eq_true, decide_eq_true_eq]
  exact ⟨⟨by omega, by have := this.1; unfold tmin; omega⟩, this.2.1⟩

set_option maxHeartbeats 400000 in
theorem hpop {base : Nat → Prop} {hb pb kb : Nat} {w : World} {t : Hp.Tb} (h : HT base hb pb kb w t) :
    Calls Try.prog 11 #[.pointer (some ⟨hb, 0, none⟩)] w (HPost base hb pb kb w (trip (tmin t)) (tpop t)) := by
  cases c : (tmin t).2.2 with
  | true =>
    have ha := Lib.hid (tmin_has t c)
    have PO : Hid (tpop t = tdrop t (tmin t).1) := Lib.hid (by unfold tpop; rw [c]; rfl)
    have TR : Hid (trip (tmin t) = .tuple #[.int .i64 ((tmin t).1 : Nat), .int .i64 (tmin t).2.1, .bool true]) := Lib.hid (by unfold trip; rw [c])
    have H := Lib.hid h
    clear c h
    rw [PO.out, TR.out]
    go_enter Try.func11, Try.ntmps11
    go_wp2_with fail
    refine (hmin H.out).mono ?_
    rintro e w1 ⟨rfl, h1, f1⟩
    rw [TR.out]
    go_wp2_with fail
    refine (hdrop h1 _).mono ?_
    rintro e w2 ⟨rfl, h2, f2⟩
    rw [ha.out, if_pos rfl, Int.toNat_natCast] at h2
    have F := f1.trans f2
    clear f1 f2 h1
    go_wp2_with fail
    go_ret3
    exact ⟨rfl, h2, F⟩
  | false =>
    have PO : Hid (tpop t = t) := Lib.hid (by unfold tpop; rw [c]; rfl)
    have TR : Hid (trip (tmin t) = .tuple #[.int .i64 ((tmin t).1 : Nat), .int .i64 (tmin t).2.1, .bool false]) := Lib.hid (by unfold trip; rw [c])
    have H := Lib.hid h
    clear c h
    rw [PO.out, TR.out]
    go_enter Try.func11, Try.ntmps11
    go_wp2_with fail
    refine (hmin H.out).mono ?_
    rintro e w1 ⟨rfl, h1, f1⟩
    rw [TR.out]
    go_wp2_with fail
    go_ret3
    exact ⟨rfl, h1, f1⟩

set_option maxHeartbeats 400000 in
theorem pop_nil (w : World) :
    Calls Try.prog 11 #[.pointer none] w fun e w' => e = .returned (.tuple #[.int .i64 0, .int .i64 0, .bool false]) ∧ w = w' := by
  go_enter Try.func11, Try.ntmps11
  go_wp2_with fail
  refine (min_nil w).mono ?_
  rintro e w' ⟨rfl, rfl⟩
  unfold trip
  go_wp2_with fail
  go_ret3
  exact ⟨rfl, rfl⟩

end Go.Proofs.Ytnlcckajldkchaa
