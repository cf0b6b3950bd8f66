import Derived.Test.YtddageahmgaigaaGreatBod
import Derived.Test.YtddageahmgaigaaGreatBit
import Derived.Laws.OwnMore
namespace Go.Proofs.YtddageahmgaigaaGreat
open Go.RowKit

theorem byE_flat (l : List Int) : (l.map byE).flatten = l.map (Value.int .u8) := by
  induction l with
  | nil => rfl
  | cons x l ih => simp [byE] at ih ⊢; exact ih

theorem BytesOwn.set {base : Nat} {w : World} {g n cap : Nat} {l : List Int} (h : BytesOwn base w (.slice (some ⟨g, 0, none⟩) n cap) l) (hn : n = l.length) (i : Nat) (b : Int) :
    BytesOwn base (w.setCell ⟨g, i, none⟩ (.int .u8 b)) (.slice (some ⟨g, 0, none⟩) n cap) (l.set i b) := by
  subst hn
  have h1 := (World.ownsRow.stored h i (.int .u8 b)).1
  unfold BytesOwn
  rw [byE_flat] at h1 ⊢
  rw [List.length_set, List.map_set]
  exact h1

theorem own_shape {base : Nat} {w : World} {v : Value} {l : List Int} (h : BytesOwn base w v l) (hl : 0 < l.length) : ∃ g cap, v = .slice (some ⟨g, 0, none⟩) l.length cap ∧ base ≤ g ∧ g < w.heap.size ∧ l.length ≤ cap ∧ cap ≤ maxLen := by
  rcases own_cases h with ⟨_, h0⟩ | ⟨g, cap, cur, e, h1, h2, h3, h4, h5, _⟩
  · omega
  · exact ⟨g, cap, e, h1, h2, h4, h5⟩

theorem with_mid {base : Nat} {w : World} {l : List Int} {v : Value} (h : w.ownsRow base 5 1 v (0 + (l.map byE).length) ([] ++ (l.map byE).flatten)) : BytesOwn base w v l := by
  rw [List.length_map, Nat.zero_add, List.nil_append] at h; exact h

set_option maxHeartbeats 2000000 in
set_option maxRecDepth 100000 in
theorem with_calls (w : World) (v : Value) (l : List Int) (k : Nat) (h : BytesAt w v l) (hk : k + 1 < l.length) (hl : l.length ≤ 1000000) :
    Calls Tryz.prog 139 #[v, .int .i64 k, .int .i64 0] w (PutPost w.heap.size w ((l.set k 0).set (k + 1) 0)) := by
  obtain ⟨i0', hi0, hz0, hz1, hz2⟩ := info_parts Tryz.infoU8
  have HI0 := Lib.hid hi0
  have HZ0 := Lib.hid hz0
  have HZ1 := Lib.hid hz1
  have HZ2 := Lib.hid hz2
  clear hi0 hz0 hz1 hz2
  obtain ⟨W, hW⟩ : ∃ W, w.alloc (.cells #[] 5) = W := ⟨_, rfl⟩
  have B0 : Below w.heap.size w W := by rw [← hW]; exact (Below.refl _ _).alloc (Nat.le_refl _) _
  have O0 : Hid (W.ownsRow w.heap.size 5 1 (.slice (some ⟨w.heap.size, 0, none⟩) 0 0) 0 []) := Lib.hid (by
    rw [← hW]
    exact World.ownsRow_made w #[] 0 (Nat.le_refl _) (by unfold maxLen; omega) rfl)
  have SL := Lib.hid (h.below B0)
  obtain ⟨a, cap, rfl, -⟩ := h.get
  have K1 : Hid (0 + (l.map byE).length ≤ maxLen) := Lib.hid (by rw [List.length_map]; unfold maxLen; omega)
  have K2 : Hid ((0 + (l.map byE).length) * 1 ≤ 140737488355328) := Lib.hid (by rw [List.length_map]; omega)
  have HB0 := Lib.hid B0
  have HW := Lib.hid hW
  clear h B0 hW
  go_enter Tryz.func139, Tryz.ntmps139
  go_wp2_with (at_builtin; rw [HW.out]; refine wpList_append_sl rfl _ _ _ rfl w.heap.size 5 i0' _ 1 1 Tryz.underlying134 HI0.out HZ0.out HZ1.out HZ2.out rfl (by decide) _ 0 [] rfl O0.out _ (l.map byE) rfl SL.out (byE_len l) (byE_one l) K1.out K2.out HB0.out.size ?_; intro v4 w4 O4 G4; have O5 := with_mid O4; have B4 := Lib.hid (Below.owned HB0.out HB0.out.size O0.out G4); clear O4 G4; obtain ⟨g, cp, ev, g0, g1, g2, g3⟩ := own_shape O5 (by omega); subst ev; have OH := Lib.hid O5; have f0 := O5.frozenAt k; have f1 := O5.frozenAt (k + 1); have d0 := O5.cellAt k (by omega); have d1 := O5.cellAt (k + 1) (by omega); rw [byE_flat, List.getElem?_map, List.getElem?_eq_getElem (by omega)] at d0 d1; simp only [Option.map_some] at d0 d1; clear O5)
  have FIN : Hid (PutPost w.heap.size w ((l.set k 0).set (k + 1) 0) (.returned (.slice (some ⟨g, 0, none⟩) l.length cp)) ((w4.setCell ⟨g, k, none⟩ (.int .u8 0)).setCell ⟨g, k + 1, none⟩ (.int .u8 0))) := Lib.hid
    ⟨_, rfl, (OH.out.set rfl k 0).set (by simp) (k + 1) 0, (B4.out.setCell g0 _).setCell g0 _⟩
  clear OH B4 g0 g1 g2 g3 O0 SL
  go_ret
  exact FIN.out

def FlePost (w : World) (e : Ending) (w' : World) : Prop := ∃ (n : Int) (b : Bool), e = .returned (.tuple #[.int .i64 n, .bool b]) ∧ Below w.heap.size w w'

end Go.Proofs.YtddageahmgaigaaGreat

namespace Go.Proofs.YtddageahmgaigaaGreat
open Go.RowKit

def sumS (l : List Int) : Nat → Int
  | 0 => 0
  | k + 1 => (sumS l k + l.getD k 0) % 255
def sumT (l : List Int) : Nat → Int
  | 0 => 0
  | k + 1 => (sumT l k + ((l.length : Int) - (k : Int)) % 255 * l.getD k 0) % 255
theorem sumS_bd (l : List Int) (k : Nat) : 0 ≤ sumS l k ∧ sumS l k < 255 := by
  cases k with
  | zero => simp [sumS]
  | succ k => unfold sumS; omega
theorem sumT_bd (l : List Int) (k : Nat) : 0 ≤ sumT l k ∧ sumT l k < 255 := by
  cases k with
  | zero => simp [sumT]
  | succ k => unfold sumT; omega

def resid (n : Int) : Int := (n - 1) % 255 + 1
theorem resid_bd (n : Int) : 1 ≤ resid n ∧ resid n ≤ 255 := by unfold resid; omega
theorem resid_one {n x : Int} (h1 : 1 ≤ x) (h2 : x ≤ 255) : x = resid n ↔ (x - n) % 255 = 0 := by unfold resid; omega

def fleX (n s t : Int) : Int := resid ((n - 15) % 255 * s - t)
def fleY (s x : Int) : Int := resid (-s - x)
def fleN (l : List Int) : Int :=
  let m := (l.set 14 0).set 15 0
  let s := sumS m m.length
  let x := fleX m.length s (sumT m m.length)
  256 * x + fleY s x

theorem fleY_eq (s x : Int) : fleY s x = 255 - (s + x) % 255 := by unfold fleY resid; omega

theorem fle_test (n s t x : Int) (h1 : 1 ≤ x) (h2 : x ≤ 255) :
    (t + (n - 14) % 255 * x + ((n - 14) % 255 + 254) % 255 * (255 - (s + x) % 255)) % 255 = 0 ↔ x = fleX n s t := by
  unfold fleX
  rw [resid_one h1 h2]
  have hv : ((n - 14) % 255 + 254) % 255 = (n - 15) % 255 := by omega
  rw [hv]
  obtain ⟨a, ha⟩ : ∃ a : Int, (n - 14) % 255 = (n - 15) % 255 + 1 + 255 * a := ⟨((n - 14) % 255 - (n - 15) % 255 - 1) / 255, by omega⟩
  obtain ⟨b, hb⟩ : ∃ b : Int, 255 - (s + x) % 255 = 255 * b - s - x := ⟨(255 - (s + x) % 255 + s + x) / 255, by omega⟩
  rw [ha, hb]
  generalize (n - 15) % 255 = v
  have e1 : (v + 1 + 255 * a) * x = v * x + x + 255 * (a * x) := by rw [Int.add_mul, Int.add_mul, Int.one_mul, Int.mul_assoc]
  have e2 : v * (255 * b - s - x) = 255 * (v * b) - v * s - v * x := by rw [Int.mul_sub, Int.mul_sub, Int.mul_left_comm]
  rw [e1, e2]
  generalize v * x = p
  generalize a * x = q
  generalize v * b = r
  generalize v * s = u
  omega

theorem sumS_skip {m : List Int} {k : Nat} (h : m.getD k 0 = 0) : sumS m (k + 1) = sumS m k := by
  have := sumS_bd m k
  rw [sumS, h]; omega
theorem sumT_skip {m : List Int} {k : Nat} (h : m.getD k 0 = 0) : sumT m (k + 1) = sumT m k := by
  have := sumT_bd m k
  rw [sumT, h, Int.mul_zero]; omega
def blank (l : List Int) : List Int := (l.set 14 0).set 15 0
theorem blank_len (l : List Int) : (blank l).length = l.length := by simp [blank]
theorem blank_at (l : List Int) (k : Nat) (h : k = 14 ∨ k = 15) : (blank l).getD k 0 = 0 := by
  unfold blank
  rcases h with rfl | rfl
  · rw [List.getD_eq_getElem?_getD, List.getElem?_set_ne (by omega), List.getElem?_set]
    split
    · split <;> rfl
    · omega
  · rw [List.getD_eq_getElem?_getD, List.getElem?_set]
    split
    · split <;> rfl
    · omega
theorem blank_off (l : List Int) {k : Nat} (h1 : k ≠ 14) (h2 : k ≠ 15) (c : k < l.length) : (blank l).getD k 0 = l[k] := by
  unfold blank
  rw [List.getD_eq_getElem?_getD, List.getElem?_set_ne (by omega), List.getElem?_set_ne (by omega), List.getElem?_eq_getElem c]
  rfl

end Go.Proofs.YtddageahmgaigaaGreat

namespace Go.Proofs.YtddageahmgaigaaGreat
open Go.RowKit

set_option maxHeartbeats 2000000 in
theorem sums_exact (w : World) (v : Value) (l : List Int) (h : BytesAt w v l) (hr : ∀ b ∈ l, 0 ≤ b ∧ b < 256) (hl : l.length ≤ 1000000) : Calls Tryz.prog 138 #[v] w fun e w' => e = .returned (.tuple #[.int .i64 (sumS l l.length), .int .i64 (sumT l l.length)]) ∧ w = w' := by
  obtain ⟨a, cap, rfl, -, -, -, hc⟩ := h.get
  have HC := Lib.hid hc
  have HR := Lib.hid hr
  clear h hc hr
  go_enter Tryz.func138, Tryz.ntmps138
  go_wp2_with fail
  go_loop [4, 5, 6] (fun s t i => ∃ k : Nat, s = .int .i64 (sumS l k) ∧ t = .int .i64 (sumT l k) ∧ i = .int .i64 k ∧ k ≤ l.length) (fun _ _ i => l.length - (intOf i).toNat)
  case atStart => exact ⟨0, rfl, rfl, rfl, Nat.zero_le _⟩
  case round =>
    obtain ⟨k, rfl, rfl, rfl, hk⟩ := hrel
    by_cases c : k < l.length
    · obtain ⟨b, off, rfl, hb, hcc⟩ := HC.out (by omega)
      have d := hcc k c
      obtain ⟨r0, r1⟩ := HR.out l[k] (List.getElem_mem c)
      clear hcc
      obtain ⟨x0, x1⟩ := sumS_bd l k
      obtain ⟨y0, y1⟩ := sumT_bd l k
      have NS : Hid (sumS l (k + 1) = (sumS l k + l[k]) % 255) := Lib.hid (by rw [sumS, List.getD_eq_getElem?_getD, List.getElem?_eq_getElem c]; rfl)
      have NT : Hid (sumT l (k + 1) = (sumT l k + ((l.length : Int) - (k : Int)) % 255 * l[k]) % 255) := Lib.hid (by rw [sumT, List.getD_eq_getElem?_getD, List.getElem?_eq_getElem c]; rfl)
      generalize l[k] = z at *
      generalize sumS l k = x at *
      generalize sumT l k = y at *
      have m0 : 0 ≤ ((l.length : Int) - (k : Int)) % 255 := by omega
      have m1 : ((l.length : Int) - (k : Int)) % 255 < 255 := by omega
      generalize hm : ((l.length : Int) - (k : Int)) % 255 = m at m0 m1 NT
      have p0 : 0 ≤ m * z := Int.mul_nonneg m0 r0
      have p1 : m * z ≤ 65025 := by
        have h1 : m * z ≤ 255 * z := Int.mul_le_mul_of_nonneg_right (by omega) r0
        omega
      go_wp2_with fail
      go_round
      case rel => exact ⟨k + 1, by rw [NS.out], by rw [NT.out], by go_num, c⟩
      case measure => simp [intOf]; omega
    · have ek : k = l.length := by omega
      go_wp2_with fail
      go_ret2
      subst ek
      exact ⟨rfl, rfl⟩

def FlxPost (w : World) (l : List Int) (e : Ending) (w' : World) : Prop := e = .returned (.tuple #[.int .i64 (fleN l), .bool true]) ∧ Below w.heap.size w w'

set_option maxHeartbeats 4000000 in
set_option maxRecDepth 100000 in
theorem fletcher_exact (w : World) (v : Value) (l : List Int) (h : BytesAt w v l) (hr : ∀ b ∈ l, 0 ≤ b ∧ b < 256) (hl : l.length ≤ 1000000) (h16 : 16 ≤ l.length) :
    Calls Tryz.prog 100 #[v, .int .i64 14] w (FlxPost w l) := by
  have WC := Lib.hid (with_calls w v l 14 h (by omega) hl)
  have HR : Hid (∀ b ∈ (l.set 14 0).set 15 0, 0 ≤ b ∧ b < 256) := Lib.hid (fun b hb => by
    rcases List.mem_or_eq_of_mem_set hb with hb | rfl
    · rcases List.mem_or_eq_of_mem_set hb with hb | rfl
      · exact hr b hb
      · omega
    · omega)
  have HL : Hid (((l.set 14 0).set 15 0).length ≤ 1000000) := Lib.hid (by simpa using hl)
  have EL : ((l.set 14 0).set 15 0).length = l.length := by simp
  have EN : Hid (fleN l = 256 * fleX l.length (sumS ((l.set 14 0).set 15 0) ((l.set 14 0).set 15 0).length) (sumT ((l.set 14 0).set 15 0) ((l.set 14 0).set 15 0).length) + fleY (sumS ((l.set 14 0).set 15 0) ((l.set 14 0).set 15 0).length) (fleX l.length (sumS ((l.set 14 0).set 15 0) ((l.set 14 0).set 15 0).length) (sumT ((l.set 14 0).set 15 0) ((l.set 14 0).set 15 0).length))) := Lib.hid (by
    unfold fleN; simp only [EL])
  obtain ⟨a, cap, rfl, -⟩ := h.get
  clear h hr EL
  unfold FlxPost
  rw [EN.out]
  clear EN
  generalize (l.set 14 0).set (14 + 1) 0 = l2 at *
  have hn : 16 ≤ l.length := h16
  generalize l.length = n at *
  obtain ⟨s, hs⟩ : ∃ s, s = sumS l2 l2.length := ⟨_, rfl⟩
  obtain ⟨t, ht⟩ : ∃ t, t = sumT l2 l2.length := ⟨_, rfl⟩
  obtain ⟨X, hX⟩ : ∃ X, X = fleX n s t := ⟨_, rfl⟩
  rw [← hs, ← ht, ← hX]
  have TS : Hid (∀ x : Int, 1 ≤ x → x ≤ 255 → ((t + ((n : Int) - 14) % 255 * x + (((n : Int) - 14) % 255 + 254) % 255 * (255 - (s + x) % 255)) % 255 = 0 ↔ x = X)) := Lib.hid (by rw [hX]; exact fle_test n s t)
  obtain ⟨X0, X1⟩ : 1 ≤ X ∧ X ≤ 255 := by rw [hX]; exact resid_bd _
  have YE := Lib.hid (fleY_eq s)
  obtain ⟨s0, s1⟩ : 0 ≤ s ∧ s < 255 := by rw [hs]; exact sumS_bd l2 l2.length
  obtain ⟨t0, t1⟩ : 0 ≤ t ∧ t < 255 := by rw [ht]; exact sumT_bd l2 l2.length
  have HS := Lib.hid hs
  have HT := Lib.hid ht
  clear hs ht hX
  go_enter Tryz.func100, Tryz.ntmps100
  go_wp2_with fail
  refine WC.out.mono ?_
  rintro e w1 ⟨v1, rfl, O1, B1⟩
  have SC := Lib.hid (sums_exact w1 v1 l2 O1.at HR.out HL.out)
  rw [← HS.out, ← HT.out] at SC
  have HB1 := Lib.hid B1
  clear WC O1 B1
  go_wp2_with fail
  refine SC.out.mono ?_
  rintro e w' ⟨rfl, rfl⟩
  clear SC
  have m0 : 0 ≤ ((n : Int) - 14) % 255 := by omega
  have m1 : ((n : Int) - 14) % 255 < 255 := by omega
  generalize hm : ((n : Int) - 14) % 255 = m at m0 m1 TS
  go_wp2_with fail
  go_loop [9] (fun i => ∃ k : Nat, i = .int .i64 k ∧ 1 ≤ k ∧ (k : Int) ≤ X) (fun i => 256 - (intOf i).toNat)
  case atStart => exact ⟨1, rfl, by omega, by omega⟩
  case round =>
    obtain ⟨k, rfl, k1, k2⟩ := hrel
    have p0 : 0 ≤ m * (k : Int) := Int.mul_nonneg m0 (by omega)
    have p1 : m * (k : Int) ≤ 65025 := by
      have h1 : m * (k : Int) ≤ 255 * (k : Int) := Int.mul_le_mul_of_nonneg_right (by omega) (by omega)
      omega
    have y0 : 0 ≤ 255 - (s + (k : Int)) % 255 := by omega
    have y1 : 255 - (s + (k : Int)) % 255 ≤ 255 := by omega
    have z0 : 0 ≤ (m + 254) % 255 := by omega
    have z1 : (m + 254) % 255 < 255 := by omega
    have q0 : 0 ≤ (m + 254) % 255 * (255 - (s + (k : Int)) % 255) := Int.mul_nonneg z0 y0
    have q1 : (m + 254) % 255 * (255 - (s + (k : Int)) % 255) ≤ 65025 := by
      have h1 : (m + 254) % 255 * (255 - (s + (k : Int)) % 255) ≤ 255 * (255 - (s + (k : Int)) % 255) := Int.mul_le_mul_of_nonneg_right (by omega) y0
      omega
    have kk : (k : Int) ≤ 255 := by omega
    have TK := TS.out k (by omega) kk
    by_cases e : (k : Int) = X
    · have g : ((t + m * (k : Int) + (m + 254) % 255 * (255 - (s + (k : Int)) % 255)) % 255 == 0) = true := by simpa using TK.2 e
      have FI : Hid ((.returned (.tuple #[.int .i64 ((k : Int) * 256 + (255 - (s + (k : Int)) % 255)), .bool true]) : Ending) = .returned (.tuple #[.int .i64 (256 * X + fleY s X), .bool true])) := Lib.hid (by
        rw [YE.out, ← e, Int.mul_comm])
      clear TK e
      go_wp2_with fail
      go_ret2
      exact ⟨FI.out, HB1.out⟩
    · have g : ((t + m * (k : Int) + (m + 254) % 255 * (255 - (s + (k : Int)) % 255)) % 255 == 0) = false := by simpa using fun h => e (TK.1 h)
      have NX : (k : Int) + 1 ≤ X := by omega
      clear TK e
      go_wp2_with fail
      go_round
      case rel => exact ⟨k + 1, by go_num, by omega, by omega⟩
      case measure => simp [intOf]; omega

end Go.Proofs.YtddageahmgaigaaGreat

namespace Go.Proofs.YtddageahmgaigaaGreat
open Go.RowKit

set_option maxHeartbeats 400000 in
theorem lwithin_calls (n lo hi : Int) (w : World) : Calls Tryz.prog 118 #[.int .i64 n, .int .i64 lo, .int .i64 hi] w fun e w' => e = .returned (.bool (withinB n lo hi)) ∧ w = w' := by
  by_cases h1 : lo ≤ n
  · by_cases h2 : n ≤ hi
    · rw [show withinB n lo hi = true from by simp [withinB, h1, h2]]
      go_enter Tryz.func118, Tryz.ntmps118
      go_wp2_with fail
      go_ret
      exact ⟨rfl, rfl⟩
    · rw [show withinB n lo hi = false from by simp [withinB, h1, h2]]
      have d2 : decide (n ≤ hi) = false := by simpa using h2
      go_enter Tryz.func118, Tryz.ntmps118
      go_wp2_with fail
      go_ret
      exact ⟨rfl, rfl⟩
  · rw [show withinB n lo hi = false from by simp [withinB, h1]]
    have d1 : decide (lo ≤ n) = false := by simpa using h1
    go_enter Tryz.func118, Tryz.ntmps118
    go_wp2_with fail
    go_ret
    exact ⟨rfl, rfl⟩

set_option maxHeartbeats 400000 in
theorem within26_calls (n lo hi : Int) (w : World) : Calls Tryz.prog 67 #[.int .i64 n, .int .i64 lo, .int .i64 hi] w fun e w' => e = .returned (.bool (withinB n lo hi)) ∧ w = w' := by
  by_cases h1 : lo ≤ n
  · by_cases h2 : n ≤ hi
    · rw [show withinB n lo hi = true from by simp [withinB, h1, h2]]
      go_enter Tryz.func67, Tryz.ntmps67
      go_wp2_with fail
      go_ret
      exact ⟨rfl, rfl⟩
    · rw [show withinB n lo hi = false from by simp [withinB, h1, h2]]
      have d2 : decide (n ≤ hi) = false := by simpa using h2
      go_enter Tryz.func67, Tryz.ntmps67
      go_wp2_with fail
      go_ret
      exact ⟨rfl, rfl⟩
  · rw [show withinB n lo hi = false from by simp [withinB, h1]]
    have d1 : decide (lo ≤ n) = false := by simpa using h1
    go_enter Tryz.func67, Tryz.ntmps67
    go_wp2_with fail
    go_ret
    exact ⟨rfl, rfl⟩

set_option maxHeartbeats 400000 in
theorem flag_calls (b : Bool) (n : Int) (w : World) : Calls Tryz.prog 176 #[.bool b, .int .u64 n] w fun e w' => e = .returned (.int .u64 (if b = true then n else 0)) ∧ w = w' := by
  cases b <;>
    (go_enter Tryz.func176, Tryz.ntmps176
     go_wp2_with fail
     go_ret
     exact ⟨rfl, rfl⟩)

set_option maxHeartbeats 400000 in
theorem residue_calls (n : Int) (h0 : -1000000000 ≤ n) (h1 : n ≤ 1000000000) (w : World) : Calls Tryz.prog 158 #[.int .i64 n] w fun e w' => e = .returned (.int .i64 (resid n)) ∧ w = w' := by
  have E : Hid ((n - 1).tmod 255 % 255 + 1 = resid n) := Lib.hid (by
    unfold resid
    have h := Int.tmod_eq_emod (a := n - 1) (b := 255)
    split at h <;> omega)
  have b1 : -255 < (n - 1).tmod 255 := Int.lt_tmod_of_pos (n - 1) (by omega)
  have b2 : (n - 1).tmod 255 < 255 := Int.tmod_lt_of_pos (n - 1) (by omega)
  rw [← E.out]
  clear E
  go_enter Tryz.func158, Tryz.ntmps158
  go_wp2_with fail
  go_ret
  exact ⟨rfl, rfl⟩

end Go.Proofs.YtddageahmgaigaaGreat
