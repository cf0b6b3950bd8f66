/-
  The walk through settle: the two loops that move an element to where it belongs.
-/
import Derived.Test.YtnlcckajldkchaaWka
import Derived.Handy
namespace Go.Proofs.Ytnlcckajldkchaa
open Go.RowKit

/-- what holds at the head of a round of the first loop -/
def UpRel (base : Nat → Prop) (hb pb kb : Nat) (w : World) (v : Value) (s : Hp.St) (i : Nat) (k : Nat) (wr : World) : Prop :=
  ∃ (f : Nat) (s' : Hp.St), k ≤ f ∧ k < s.len ∧ Rep base hb pb kb wr v s' ∧ Hp.Wf s' ∧ s'.len = s.len ∧ Hp.up f s' k = Hp.up i s i ∧ Fr base hb pb kb w wr

/-- of the second -/
def DownRel (base : Nat → Prop) (hb pb kb : Nat) (w : World) (v : Value) (s : Hp.St) (i : Nat) (k : Nat) (wr : World) : Prop :=
  ∃ (f : Nat) (s' : Hp.St), s.len ≤ f + k ∧ k < s.len ∧ Rep base hb pb kb wr v s' ∧ Hp.Wf s' ∧ s'.len = s.len ∧ Hp.down f s' k = Hp.settle s i ∧ Fr base hb pb kb w wr

theorem Rep.drewN {base : Nat → Prop} {hb pb kb : Nat} {w : World} {v : Value} {s : Hp.St} (r : Rep base hb pb kb w v s) (n : Nat) : Rep base hb pb kb (w.drewN n) v s := r.heap rfl
theorem Fr.drewN {base : Nat → Prop} {hb pb kb : Nat} {w w' : World} (h : Fr base hb pb kb w w') (n : Nat) : Fr base hb pb kb w (w'.drewN n) := ⟨h.os, h.tape, h.output, h.size, h.block⟩

theorem UpRel.next {base : Nat → Prop} {hb pb kb : Nat} {w w1 w2 : World} {v : Value} {s s' : Hp.St} {i k f : Nat} (hk : 0 < k) (hf : k ≤ f) (hl : k < s.len) (w' : Hp.Wf s') (e : s'.len = s.len) (u : Hp.up f s' k = Hp.up i s i) (fr : Fr base hb pb kb w w1)
    (ls : s'.less k ((k - 1) / 2) = true) (r2 : Rep base hb pb kb w2 v (s'.swap k ((k - 1) / 2))) (fr2 : Fr base hb pb kb w1 w2) : UpRel base hb pb kb w v s i ((k - 1) / 2) w2 := by
  obtain ⟨f, rfl⟩ : ∃ f', f = f' + 1 := ⟨f - 1, by omega⟩
  refine ⟨f, _, by omega, by omega, r2, w'.swap (by omega) (by omega), by rw [Hp.swap_len]; exact e, ?_, fr.trans fr2⟩
  rw [← u, Hp.up, if_pos ⟨hk, ls⟩]

theorem UpRel.stop {base : Nat → Prop} {hb pb kb : Nat} {w wr : World} {v : Value} {s s' : Hp.St} {i k f : Nat} (hl : k < s.len) (r : Rep base hb pb kb wr v s') (w' : Hp.Wf s') (e : s'.len = s.len) (u : Hp.up f s' k = Hp.up i s i) (fr : Fr base hb pb kb w wr)
    (c : ¬ (0 < k ∧ s'.less k ((k - 1) / 2) = true)) : DownRel base hb pb kb w v s i k wr := by
  have : Hp.up f s' k = (s', k) := by
    cases f with
    | zero => rfl
    | succ f => rw [Hp.up, if_neg c]
  refine ⟨s.len, s', by omega, hl, r, w', e, ?_, fr⟩
  rw [Hp.settle, ← u, this]

theorem DownRel.next {base : Nat → Prop} {hb pb kb : Nat} {w w1 w2 : World} {v : Value} {s s' : Hp.St} {i k f : Nat} (hf : s.len ≤ f + k) (hl : k < s.len) (w' : Hp.Wf s') (e : s'.len = s.len) (u : Hp.down f s' k = Hp.settle s i) (fr : Fr base hb pb kb w w1)
    (c1 : Hp.kid s' k < s'.len) (c2 : s'.less (Hp.kid s' k) k = true) (r2 : Rep base hb pb kb w2 v (s'.swap k (Hp.kid s' k))) (fr2 : Fr base hb pb kb w1 w2) : DownRel base hb pb kb w v s i (Hp.kid s' k) w2 := by
  have kc := Hp.kid_cases s' k
  obtain ⟨f, rfl⟩ : ∃ f', f = f' + 1 := ⟨f - 1, by omega⟩
  refine ⟨f, _, by omega, by omega, r2, w'.swap (by omega) c1, by rw [Hp.swap_len]; exact e, ?_, fr.trans fr2⟩
  rw [← u, Hp.down, if_pos ⟨c1, c2⟩]

theorem DownRel.stop {base : Nat → Prop} {hb pb kb : Nat} {w w1 : World} {v : Value} {s s' : Hp.St} {i k f : Nat} (r : Rep base hb pb kb w1 v s') (u : Hp.down f s' k = Hp.settle s i) (fr : Fr base hb pb kb w w1)
    (c : ¬ (Hp.kid s' k < s'.len ∧ s'.less (Hp.kid s' k) k = true)) : Rep base hb pb kb w1 v (Hp.settle s i) ∧ Fr base hb pb kb w w1 := by
  have : Hp.down f s' k = s' := by
    cases f with
    | zero => rfl
    | succ f => rw [Hp.down, if_neg c]
  rw [← u, this]; exact ⟨r, fr⟩

theorem less_at {base : Nat → Prop} {hb pb kb : Nat} {w0 w : World} {v : Value} {s : Hp.St} (r : Rep base hb pb kb w v s) (f : Hp.Wf s) (fr : Fr base hb pb kb w0 w) (i j : Int) (a b : Nat) (hi : i = a) (hj : j = b) (ha : a < s.len) (hb' : b < s.len) :
    Calls Try.prog 20 #[.pointer (some ⟨hb, 0, none⟩), .int .i64 i, .int .i64 j] w fun e w' => e = .returned (.bool (s.less a b)) ∧ Rep base hb pb kb w' v s ∧ Fr base hb pb kb w0 w' := by
  subst hi hj
  have := less_rep r f a b (by omega) (by omega) (by omega) (by omega)
  simp only [Int.toNat_natCast] at this
  exact this.mono fun e w' ⟨h1, n, h2⟩ => ⟨h1, by rw [h2]; exact r.drewN n, by rw [h2]; exact fr.drewN n⟩

theorem swap_at {base : Nat → Prop} {hb pb kb : Nat} {w : World} {v : Value} {s : Hp.St} (r : Rep base hb pb kb w v s) (f : Hp.Wf s) (i j : Int) (a b : Nat) (hi : i = a) (hj : j = b) (ha : a < s.len) (hb' : b < s.len) :
    Calls Try.prog 21 #[.pointer (some ⟨hb, 0, none⟩), .int .i64 i, .int .i64 j] w fun e w' => e = .returned (.tuple #[]) ∧ Rep base hb pb kb w' v (s.swap a b) ∧ Fr base hb pb kb w w' := by
  subst hi hj
  have := swap_rep r f a b (by omega) (by omega) (by omega) (by omega)
  simpa only [Int.toNat_natCast] using this

set_option maxHeartbeats 2000000 in
theorem settle_rep {base : Nat → Prop} {hb pb kb : Nat} {w : World} {v : Value} {s : Hp.St} (r : Rep base hb pb kb w v s) (f : Hp.Wf s) (i : Nat) (hi : i < s.len) :
    Calls Try.prog 19 #[.int .i64 i, .int .i64 s.len, .func (.func 20) #[.pointer (some ⟨hb, 0, none⟩)] #[], .func (.func 21) #[.pointer (some ⟨hb, 0, none⟩)] #[]] w
      fun e w' => e = .returned (.tuple #[]) ∧ Rep base hb pb kb w' v (Hp.settle s i) ∧ Fr base hb pb kb w w' := by
  have small : s.len ≤ 65536 := Nat.le_trans r.len r.small
  go_enter Try.func19, Try.ntmps19
  go_wp2_with fail
  go_loopw [0] (fun t wr => ∃ k : Nat, t = .int .i64 k ∧ UpRel base hb pb kb w v s i k wr) (fun t _ => (intOf t).toNat)
  case atStart => exact ⟨i, rfl, i, s, Nat.le_refl _, hi, r, f, rfl, rfl, Fr.refl ..⟩
  case round =>
    obtain ⟨k, rfl, f', s', hf, hl, rr, wf', e, u, fr⟩ := hrel
    have E := Lib.hid e
    have U := Lib.hid u
    clear e u
    have hle : k < s'.len := by rw [E.out]; exact hl
    by_cases hk : 0 < k
    · go_wp2_with fail
      refine (less_at rr wf' fr _ _ k ((k - 1) / 2) (by omega) (by omega) (by omega) (by omega)).mono ?_
      rintro e w1 ⟨rfl, rr1, fr1⟩
      cases hls : s'.less k ((k - 1) / 2) with
      | true =>
        have LS := Lib.hid hls
        clear hls
        go_wp2_with fail
        refine (swap_at rr1 wf' _ _ k ((k - 1) / 2) (by omega) (by omega) (by omega) (by omega)).mono ?_
        rintro e w2 ⟨rfl, rr2, fr2⟩
        have R := UpRel.next hk hf hl wf' E.out U.out fr1 LS.out rr2 fr2
        clear rr2 fr2
        go_wp2_with fail
        go_roundw
        case rel => exact ⟨(k - 1) / 2, by go_num, R⟩
        case measure => simp [intOf]; omega
      | false =>
        have R := UpRel.stop hl rr1 wf' E.out U.out fr1 (by simp [hls])
        clear hls rr1 fr1
        go_wp2_with fail
        go_loopw [0] (fun t wr => ∃ k : Nat, t = .int .i64 k ∧ DownRel base hb pb kb w v s i k wr) (fun t _ => s.len - (intOf t).toNat)
        case atStart => exact ⟨k, rfl, R⟩
        case round =>
          clear R rr wf' E U fr hf hle
          obtain ⟨k, rfl, f', s', hf, hl, rr, wf', e, u, fr⟩ := hrel
          have E := Lib.hid e
          have U := Lib.hid u
          have hle : k < s'.len := by rw [e]; exact hl
          have hsl : s'.len ≤ s.len := by omega
          have hsl2 : s.len ≤ s'.len := by omega
          clear e u
          by_cases c1 : 2 * k + 1 + 1 < s.len
          · go_wp2_with fail
            refine (less_at rr wf' fr _ _ (2 * k + 1 + 1) (2 * k + 1) (by omega) (by omega) (by omega) (by omega)).mono ?_
            rintro e w2 ⟨rfl, rr2, fr2⟩
            cases hl2 : s'.less (2 * k + 1 + 1) (2 * k + 1) with
            | true =>
              have L2 := Lib.hid hl2
              clear hl2
              go_wp2_with fail
              refine (less_at rr2 wf' fr2 _ _ (2 * k + 1 + 1) k (by omega) (by omega) (by omega) (by omega)).mono ?_
              rintro e w3 ⟨rfl, rr3, fr3⟩
              cases hl3 : s'.less (2 * k + 1 + 1) k with
              | true =>
                have L3 := Lib.hid hl3
                clear hl3
                go_wp2_with fail
                refine (swap_at rr3 wf' _ _ k (2 * k + 1 + 1) (by omega) (by omega) (by omega) (by omega)).mono ?_
                rintro e w4 ⟨rfl, rr4, fr4⟩
                have KD : Hp.kid s' k = 2 * k + 1 + 1 := by unfold Hp.kid; rw [if_pos ⟨by omega, L2.out⟩]
                have RR := DownRel.next hf hl wf' E.out U.out fr3 (by rw [KD]; omega) (by rw [KD]; exact L3.out) (by rw [KD]; exact rr4) fr4
                rw [KD] at RR
                clear rr4 fr4 KD
                go_wp2_with fail
                go_roundw
                case rel => exact ⟨2 * k + 1 + 1, by go_num, RR⟩
                case measure => simp [intOf]; omega
              | false =>
                have RR := DownRel.stop rr3 U.out fr3 (by rw [show Hp.kid s' k = 2 * k + 1 + 1 from by unfold Hp.kid; rw [if_pos ⟨by omega, L2.out⟩]]; simp [hl3])
                clear hl3
                go_wp2_with fail
                go_returns
                exact ⟨rfl, RR⟩
            | false =>
              have L2 := Lib.hid hl2
              clear hl2
              go_wp2_with fail
              refine (less_at rr2 wf' fr2 _ _ (2 * k + 1) k (by omega) (by omega) (by omega) (by omega)).mono ?_
              rintro e w3 ⟨rfl, rr3, fr3⟩
              cases hl3 : s'.less (2 * k + 1) k with
              | true =>
                have L3 := Lib.hid hl3
                clear hl3
                go_wp2_with fail
                refine (swap_at rr3 wf' _ _ k (2 * k + 1) (by omega) (by omega) (by omega) (by omega)).mono ?_
                rintro e w4 ⟨rfl, rr4, fr4⟩
                have KD : Hp.kid s' k = 2 * k + 1 := by unfold Hp.kid; rw [if_neg (fun h => by rw [L2.out] at h; cases h.2)]
                have RR := DownRel.next hf hl wf' E.out U.out fr3 (by rw [KD]; omega) (by rw [KD]; exact L3.out) (by rw [KD]; exact rr4) fr4
                rw [KD] at RR
                clear rr4 fr4 KD
                go_wp2_with fail
                go_roundw
                case rel => exact ⟨2 * k + 1, by go_num, RR⟩
                case measure => simp [intOf]; omega
              | false =>
                have RR := DownRel.stop rr3 U.out fr3 (by rw [show Hp.kid s' k = 2 * k + 1 from by unfold Hp.kid; rw [if_neg (fun h => by rw [L2.out] at h; cases h.2)]]; simp [hl3])
                clear hl3
                go_wp2_with fail
                go_returns
                exact ⟨rfl, RR⟩
          · have hd1 : decide (2 * (k : Int) + 1 + 1 < (s.len : Int)) = false := by simp; omega
            by_cases c2 : 2 * k + 1 < s.len
            · skip
              go_wp2_with fail
              refine (less_at rr wf' fr _ _ (2 * k + 1) k (by omega) (by omega) (by omega) (by omega)).mono ?_
              rintro e w3 ⟨rfl, rr3, fr3⟩
              cases hl3 : s'.less (2 * k + 1) k with
              | true =>
                have L3 := Lib.hid hl3
                clear hl3
                go_wp2_with fail
                refine (swap_at rr3 wf' _ _ k (2 * k + 1) (by omega) (by omega) (by omega) (by omega)).mono ?_
                rintro e w4 ⟨rfl, rr4, fr4⟩
                have KD : Hp.kid s' k = 2 * k + 1 := by unfold Hp.kid; rw [if_neg (fun h => by omega)]
                have RR := DownRel.next hf hl wf' E.out U.out fr3 (by rw [KD]; omega) (by rw [KD]; exact L3.out) (by rw [KD]; exact rr4) fr4
                rw [KD] at RR
                clear rr4 fr4 KD
                go_wp2_with fail
                go_roundw
                case rel => exact ⟨2 * k + 1, by go_num, RR⟩
                case measure => simp [intOf]; omega
              | false =>
                have RR := DownRel.stop rr3 U.out fr3 (by rw [show Hp.kid s' k = 2 * k + 1 from by unfold Hp.kid; rw [if_neg (fun h => by omega)]]; simp [hl3])
                clear hl3
                go_wp2_with fail
                go_returns
                exact ⟨rfl, RR⟩
            · have RR := DownRel.stop rr U.out fr (by rw [show Hp.kid s' k = 2 * k + 1 from by unfold Hp.kid; rw [if_neg (fun h => by omega)]]; omega)
              go_wp2_with fail
              go_returns
              exact ⟨rfl, RR⟩
    · have R := UpRel.stop hl rr wf' E.out U.out fr (by simp [hk])
      have hd : decide ((0 : Int) < (k : Int)) = false := by simp; omega
      go_wp2_with fail
      go_loopw [0] (fun t wr => ∃ k : Nat, t = .int .i64 k ∧ DownRel base hb pb kb w v s i k wr) (fun t _ => s.len - (intOf t).toNat)
      case atStart => exact ⟨k, rfl, R⟩
      case round =>
        clear R rr wf' E U fr hf hle hd
        obtain ⟨k, rfl, f', s', hf, hl, rr, wf', e, u, fr⟩ := hrel
        have E := Lib.hid e
        have U := Lib.hid u
        have hle : k < s'.len := by rw [e]; exact hl
        have hsl : s'.len ≤ s.len := by omega
        have hsl2 : s.len ≤ s'.len := by omega
        clear e u
        by_cases c1 : 2 * k + 1 + 1 < s.len
        · go_wp2_with fail
          refine (less_at rr wf' fr _ _ (2 * k + 1 + 1) (2 * k + 1) (by omega) (by omega) (by omega) (by omega)).mono ?_
          rintro e w2 ⟨rfl, rr2, fr2⟩
          cases hl2 : s'.less (2 * k + 1 + 1) (2 * k + 1) with
          | true =>
            have L2 := Lib.hid hl2
            clear hl2
            go_wp2_with fail
            refine (less_at rr2 wf' fr2 _ _ (2 * k + 1 + 1) k (by omega) (by omega) (by omega) (by omega)).mono ?_
            rintro e w3 ⟨rfl, rr3, fr3⟩
            cases hl3 : s'.less (2 * k + 1 + 1) k with
            | true =>
              have L3 := Lib.hid hl3
              clear hl3
              go_wp2_with fail
              refine (swap_at rr3 wf' _ _ k (2 * k + 1 + 1) (by omega) (by omega) (by omega) (by omega)).mono ?_
              rintro e w4 ⟨rfl, rr4, fr4⟩
              have KD : Hp.kid s' k = 2 * k + 1 + 1 := by unfold Hp.kid; rw [if_pos ⟨by omega, L2.out⟩]
              have RR := DownRel.next hf hl wf' E.out U.out fr3 (by rw [KD]; omega) (by rw [KD]; exact L3.out) (by rw [KD]; exact rr4) fr4
              rw [KD] at RR
              clear rr4 fr4 KD
              go_wp2_with fail
              go_roundw
              case rel => exact ⟨2 * k + 1 + 1, by go_num, RR⟩
              case measure => simp [intOf]; omega
            | false =>
              have RR := DownRel.stop rr3 U.out fr3 (by rw [show Hp.kid s' k = 2 * k + 1 + 1 from by unfold Hp.kid; rw [if_pos ⟨by omega, L2.out⟩]]; simp [hl3])
              clear hl3
              go_wp2_with fail
              go_returns
              exact ⟨rfl, RR⟩
          | false =>
            have L2 := Lib.hid hl2
            clear hl2
            go_wp2_with fail
            refine (less_at rr2 wf' fr2 _ _ (2 * k + 1) k (by omega) (by omega) (by omega) (by omega)).mono ?_
            rintro e w3 ⟨rfl, rr3, fr3⟩
            cases hl3 : s'.less (2 * k + 1) k with
            | true =>
              have L3 := Lib.hid hl3
              clear hl3
              go_wp2_with fail
              refine (swap_at rr3 wf' _ _ k (2 * k + 1) (by omega) (by omega) (by omega) (by omega)).mono ?_
              rintro e w4 ⟨rfl, rr4, fr4⟩
              have KD : Hp.kid s' k = 2 * k + 1 := by unfold Hp.kid; rw [if_neg (fun h => by rw [L2.out] at h; cases h.2)]
              have RR := DownRel.next hf hl wf' E.out U.out fr3 (by rw [KD]; omega) (by rw [KD]; exact L3.out) (by rw [KD]; exact rr4) fr4
              rw [KD] at RR
              clear rr4 fr4 KD
              go_wp2_with fail
              go_roundw
              case rel => exact ⟨2 * k + 1, by go_num, RR⟩
              case measure => simp [intOf]; omega
            | false =>
              have RR := DownRel.stop rr3 U.out fr3 (by rw [show Hp.kid s' k = 2 * k + 1 from by unfold Hp.kid; rw [if_neg (fun h => by rw [L2.out] at h; cases h.2)]]; simp [hl3])
              clear hl3
              go_wp2_with fail
              go_returns
              exact ⟨rfl, RR⟩
        · have hd1 : decide (2 * (k : Int) + 1 + 1 < (s.len : Int)) = false := by simp; omega
          by_cases c2 : 2 * k + 1 < s.len
          · skip
            go_wp2_with fail
            refine (less_at rr wf' fr _ _ (2 * k + 1) k (by omega) (by omega) (by omega) (by omega)).mono ?_
            rintro e w3 ⟨rfl, rr3, fr3⟩
            cases hl3 : s'.less (2 * k + 1) k with
            | true =>
              have L3 := Lib.hid hl3
              clear hl3
              go_wp2_with fail
              refine (swap_at rr3 wf' _ _ k (2 * k + 1) (by omega) (by omega) (by omega) (by omega)).mono ?_
              rintro e w4 ⟨rfl, rr4, fr4⟩
              have KD : Hp.kid s' k = 2 * k + 1 := by unfold Hp.kid; rw [if_neg (fun h => by omega)]
              have RR := DownRel.next hf hl wf' E.out U.out fr3 (by rw [KD]; omega) (by rw [KD]; exact L3.out) (by rw [KD]; exact rr4) fr4
              rw [KD] at RR
              clear rr4 fr4 KD
              go_wp2_with fail
              go_roundw
              case rel => exact ⟨2 * k + 1, by go_num, RR⟩
              case measure => simp [intOf]; omega
            | false =>
              have RR := DownRel.stop rr3 U.out fr3 (by rw [show Hp.kid s' k = 2 * k + 1 from by unfold Hp.kid; rw [if_neg (fun h => by omega)]]; simp [hl3])
              clear hl3
              go_wp2_with fail
              go_returns
              exact ⟨rfl, RR⟩
          · have RR := DownRel.stop rr U.out fr (by rw [show Hp.kid s' k = 2 * k + 1 from by unfold Hp.kid; rw [if_neg (fun h => by omega)]]; omega)
            go_wp2_with fail
            go_returns
            exact ⟨rfl, RR⟩

end Go.Proofs.Ytnlcckajldkchaa
