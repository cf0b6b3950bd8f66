/-
  The walk through 'act': its other branches.
-/
import Derived.Test.YtnlcckajldkchaaActw
import Derived.Deep.RegionHeld3
namespace Go.Proofs.Ytnlcckajldkchaa
open Go.RowKit

theorem FrT.ofdrew {ib kb : Nat} {w w2 : World} (f : FrT ib kb w.drew w2) : FrT ib kb w w2 := ⟨f.os, f.tape, f.output, f.size, f.block⟩

set_option maxHeartbeats 1000000 in
theorem act_min {base own : Nat → Prop} {hb pb kb rb ib rk : Nat} {w : World} {t : Hp.Tb} (it ke : Int) (I : In base own hb pb kb rb ib rk w (w.alloc (.cells #[.int .i64 1, .int .i64 it, .int .i64 ke] 35)) t 1 it ke) :
    Calls Try.prog 14 #[.pointer (some ⟨hb, 0, none⟩), .pointer (some ⟨rb, 0, none⟩), .agg #[.int .i64 1, .int .i64 it, .int .i64 ke]] w (ActPost base hb pb kb rb ib rk w) := by
  obtain ⟨a, b, c, e0⟩ : ∃ a b c, tmin t = (a, b, c) := ⟨_, _, _, rfl⟩
  have TR : Hid (trip (tmin t) = .tuple #[.int .i64 (a : Nat), .int .i64 b, .bool c]) := Lib.hid (by rw [e0]; rfl)
  clear e0
  go_enter Try.func14, Try.ntmps14
  go_wp2_with fail
  refine (hmin I.T.ht).mono ?_
  rintro e w1 ⟨rfl, h1, f1⟩
  rw [TR.out]
  have r1 := I.T.keepR f1
  go_wp2_with fail
  refine (rmin r1).mono ?_
  rintro e w2 ⟨rfl, r2, g2⟩
  rw [TR.out]
  have PO := Lib.hid (I.back _ _ (I.T.mk2 (I.T.keepH' h1 g2) r2) ((f1.six ib rk).trans (g2.six own hb pb kb)))
  clear h1 f1 r1 r2 g2
  go_wp2_with fail
  go_ret
  exact PO.out

set_option maxHeartbeats 1000000 in
theorem act_key {base own : Nat → Prop} {hb pb kb rb ib rk : Nat} {w : World} {t : Hp.Tb} (it ke : Int) (I : In base own hb pb kb rb ib rk w (w.alloc (.cells #[.int .i64 3, .int .i64 it, .int .i64 ke] 35)) t 3 it ke) :
    Calls Try.prog 14 #[.pointer (some ⟨hb, 0, none⟩), .pointer (some ⟨rb, 0, none⟩), .agg #[.int .i64 3, .int .i64 it, .int .i64 ke]] w (ActPost base hb pb kb rb ib rk w) := by
  have PO := Lib.hid (I.back _ _ I.T (Fr6.refl ..))
  obtain ⟨q, Q⟩ : ∃ q : Int, Hid ((if thas t it then t.keys.getD it.toNat 0 else 0) = q) := ⟨_, Lib.hid rfl⟩
  obtain ⟨c, C⟩ : ∃ c : Bool, Hid (thas t it = c) := ⟨_, Lib.hid rfl⟩
  go_enter Try.func14, Try.ntmps14
  go_wp2_with fail
  refine (hkey I.T.ht it).mono ?_
  rintro e w' ⟨rfl, rfl⟩
  rw [Q.out]
  rw [C.out]
  go_wp2_with fail
  refine (rkey I.T.rt it).mono ?_
  rintro e w' ⟨rfl, rfl⟩
  rw [Q.out, C.out]
  go_wp2_with fail
  go_ret
  exact PO.out

set_option maxHeartbeats 2000000 in
theorem act_drop {base own : Nat → Prop} {hb pb kb rb ib rk : Nat} {w : World} {t : Hp.Tb} (it ke : Int) (I : In base own hb pb kb rb ib rk w (w.alloc (.cells #[.int .i64 2, .int .i64 it, .int .i64 ke] 35)) t 2 it ke) :
    Calls Try.prog 14 #[.pointer (some ⟨hb, 0, none⟩), .pointer (some ⟨rb, 0, none⟩), .agg #[.int .i64 2, .int .i64 it, .int .i64 ke]] w (ActPost base hb pb kb rb ib rk w) := by
  obtain ⟨c, C⟩ : ∃ c : Bool, Hid (thas t it = c) := ⟨_, Lib.hid rfl⟩
  obtain ⟨t1, T1⟩ : ∃ t1, Hid ((if thas t it then tdrop t it.toNat else t) = t1) := ⟨_, Lib.hid rfl⟩
  go_enter Try.func14, Try.ntmps14
  go_wp2_with fail
  go_region_with (first
    | (go_at_call 16; ((with_reducible refine (hdrop HB it).mono ?_); rintro e w2 ⟨rfl, h2, f2⟩; rw [T1.out] at h2; rw [C.out]; have PO := Lib.hid (I.back _ _ (I.T.mk2 h2 (I.T.keepR' RB f2)) (GB.out.trans (f2.six ib rk))); clear h2 f2))
    | (go_at_call 24; ((with_reducible refine (rdrop RA it).mono ?_); rintro e w2 ⟨rfl, r2, g2⟩; rw [T1.out] at r2; rw [C.out]; have PO := Lib.hid (I.back _ _ (I.T.mk2 (I.T.keepH' HA g2) r2) (FA.out.trans (g2.six own hb pb kb))); clear r2 g2))
    | (go_at_call 16; refine (hdrop (by exact I.T.ht.heap rfl) it).mono ?_; rintro e w1 ⟨rfl, HA, f1⟩; rw [T1.out] at HA; rw [C.out]; have RA := I.T.keepR f1.ofdrew; have FA := Lib.hid (f1.ofdrew.six ib rk); have xa := (I.x _ FA.out).2.1; clear f1)
    | (go_at_call 24; refine (rdrop (I.T.rt.other fun _ _ => rfl) it).mono ?_; rintro e w1 ⟨rfl, RB, g1⟩; rw [T1.out] at RB; rw [C.out]; have HB := I.T.keepH g1.ofdrew; have GB := Lib.hid (g1.ofdrew.six own hb pb kb); have xa := (I.x _ GB.out).2.1; clear g1))
  all_goals (go_wp2_with fail; go_ret; exact PO.out)

set_option maxHeartbeats 2000000 in
theorem act_set {base own : Nat → Prop} {hb pb kb rb ib rk : Nat} {w : World} {t : Hp.Tb} (kd it ke : Int) (I : In base own hb pb kb rb ib rk w (w.alloc (.cells #[.int .i64 kd, .int .i64 it, .int .i64 ke] 35)) t kd it ke) (h0 : (kd == 0) = false) (h1 : (kd == 1) = false) (h2 : (kd == 2) = false) (h3 : (kd == 3) = false) :
    Calls Try.prog 14 #[.pointer (some ⟨hb, 0, none⟩), .pointer (some ⟨rb, 0, none⟩), .agg #[.int .i64 kd, .int .i64 it, .int .i64 ke]] w (ActPost base hb pb kb rb ib rk w) := by
  obtain ⟨c, C⟩ : ∃ c : Bool, Hid (tin t it = c) := ⟨_, Lib.hid rfl⟩
  obtain ⟨t1, T1⟩ : ∃ t1, Hid ((if tin t it then tset t it.toNat ke else t) = t1) := ⟨_, Lib.hid rfl⟩
  go_enter Try.func14, Try.ntmps14
  go_wp2_with fail
  have x1 := (I.x _ (Fr6.refl ..)).2.1
  have x2 := (I.x _ (Fr6.refl ..)).2.2
  go_region_held3 (fun W' => W'.cell? ⟨w.heap.size, 1, none⟩ = some (.int .i64 it) ∧ W'.cell? ⟨w.heap.size, 2, none⟩ = some (.int .i64 ke)) (first | exact ⟨x1, x2⟩ | exact ⟨xa, xb⟩ | exact ⟨xa', xb'⟩)
    (first
    | (go_at_call 10; ((with_reducible refine (hset HB it ke).mono ?_); rintro e w2 ⟨rfl, h2, f2⟩; rw [T1.out] at h2; rw [C.out]; have PO := Lib.hid (I.back _ _ (I.T.mk2 h2 (I.T.keepR' RB f2)) (GB.out.trans (f2.six ib rk))); have xa' := (I.x _ (GB.out.trans (f2.six ib rk))).2.1; have xb' := (I.x _ (GB.out.trans (f2.six ib rk))).2.2; clear h2 f2))
    | (go_at_call 26; ((with_reducible refine (rset RA it ke).mono ?_); rintro e w2 ⟨rfl, r2, g2⟩; rw [T1.out] at r2; rw [C.out]; have PO := Lib.hid (I.back _ _ (I.T.mk2 (I.T.keepH' HA g2) r2) (FA.out.trans (g2.six own hb pb kb))); have xa' := (I.x _ (FA.out.trans (g2.six own hb pb kb))).2.1; have xb' := (I.x _ (FA.out.trans (g2.six own hb pb kb))).2.2; clear r2 g2))
    | (go_at_call 10; refine (hset (by exact I.T.ht.heap rfl) it ke).mono ?_; rintro e w1 ⟨rfl, HA, f1⟩; rw [T1.out] at HA; rw [C.out]; have RA := I.T.keepR f1.ofdrew; have FA := Lib.hid (f1.ofdrew.six ib rk); have xa := (I.x _ FA.out).2.1; have xb := (I.x _ FA.out).2.2; clear f1)
    | (go_at_call 26; refine (rset (I.T.rt.other fun _ _ => rfl) it ke).mono ?_; rintro e w1 ⟨rfl, RB, g1⟩; rw [T1.out] at RB; rw [C.out]; have HB := I.T.keepH g1.ofdrew; have GB := Lib.hid (g1.ofdrew.six own hb pb kb); have xa := (I.x _ GB.out).2.1; have xb := (I.x _ GB.out).2.2; clear g1))
  all_goals (go_wp2_with fail; go_ret; exact PO.out)

theorem act_all {base : Nat → Prop} {hb pb kb rb ib rk : Nat} {w : World} {t : Hp.Tb} (T : Two base hb pb kb rb ib rk w t) (kd it ke : Int) :
    Calls Try.prog 14 #[.pointer (some ⟨hb, 0, none⟩), .pointer (some ⟨rb, 0, none⟩), .agg #[.int .i64 kd, .int .i64 it, .int .i64 ke]] w (ActPost base hb pb kb rb ib rk w) := by
  obtain ⟨own, I⟩ := In.mk' T kd it ke
  by_cases h0 : kd = 0
  · subst h0; exact act_pop it ke I
  by_cases h1 : kd = 1
  · subst h1; exact act_min it ke I
  by_cases h2 : kd = 2
  · subst h2; exact act_drop it ke I
  by_cases h3 : kd = 3
  · subst h3; exact act_key it ke I
  exact act_set kd it ke I (by simpa using h0) (by simpa using h1) (by simpa using h2) (by simpa using h3)

end Go.Proofs.Ytnlcckajldkchaa
