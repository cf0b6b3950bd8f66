/-
  routingref04.With, Fletcher; routingref23.Sum: some number is returned.
-/
import Derived.Test.YtogdconliofblaaGreatBod
import Derived.Laws.OwnMore
namespace Go.Proofs.YtogdconliofblaaGreat
open Go.RowKit

theorem byE_flat (l : List Int) : (l.map byE).flatten = l.map (Value.int .u8) := by
  induction l with
  | nil => rfl
  | cons x l ih => simp [byE] at ih ⊢; exact ih

theorem BytesOwn.set {base : Nat} {w : World} {g n cap : Nat} {l : List Int} (h : BytesOwn base w (.slice (some ⟨g, 0, none⟩) n cap) l) (hn : n = l.length) (i : Nat) (b : Int) :
    BytesOwn base (w.setCell ⟨g, i, none⟩ (.int .u8 b)) (.slice (some ⟨g, 0, none⟩) n cap) (l.set i b) := by
  subst hn
  have h1 := (World.ownsRow.stored h i (.int .u8 b)).1
  unfold BytesOwn
  rw [byE_flat] at h1 ⊢
  rw [List.length_set, List.map_set]
  exact h1

theorem own_shape {base : Nat} {w : World} {v : Value} {l : List Int} (h : BytesOwn base w v l) (hl : 0 < l.length) : ∃ g cap, v = .slice (some ⟨g, 0, none⟩) l.length cap ∧ base ≤ g ∧ g < w.heap.size ∧ l.length ≤ cap ∧ cap ≤ maxLen := by
  rcases own_cases h with ⟨_, h0⟩ | ⟨g, cap, cur, e, h1, h2, h3, h4, h5, _⟩
  · omega
  · exact ⟨g, cap, e, h1, h2, h4, h5⟩

theorem with_mid {base : Nat} {w : World} {l : List Int} {v : Value} (h : w.ownsRow base 5 1 v (0 + (l.map byE).length) ([] ++ (l.map byE).flatten)) : BytesOwn base w v l := by
  rw [List.length_map, Nat.zero_add, List.nil_append] at h; exact h

set_option maxHeartbeats 2000000 in
set_option maxRecDepth 100000 in
theorem with_calls (w : World) (v : Value) (l : List Int) (k : Nat) (h : BytesAt w v l) (hk : k + 1 < l.length) (hl : l.length ≤ 1000000) :
    Calls Tryz.prog 176 #[v, .int .i64 k, .int .i64 0] w (PutPost w.heap.size w ((l.set k 0).set (k + 1) 0)) := by
  obtain ⟨i0', hi0, hz0, hz1, hz2⟩ := info_parts Tryz.infoU8
  have HI0 := Lib.hid hi0
  have HZ0 := Lib.hid hz0
  have HZ1 := Lib.hid hz1
  have HZ2 := Lib.hid hz2
  clear hi0 hz0 hz1 hz2
  obtain ⟨W, hW⟩ : ∃ W, w.alloc (.cells #[] 5) = W := ⟨_, rfl⟩
  have B0 : Below w.heap.size w W := by rw [← hW]; exact (Below.refl _ _).alloc (Nat.le_refl _) _
  have O0 : Hid (W.ownsRow w.heap.size 5 1 (.slice (some ⟨w.heap.size, 0, none⟩) 0 0) 0 []) := Lib.hid (by
    rw [← hW]
    exact World.ownsRow_made w #[] 0 (Nat.le_refl _) (by unfold maxLen; omega) rfl)
  have SL := Lib.hid (h.below B0)
  obtain ⟨a, cap, rfl, -⟩ := h.get
  have K1 : Hid (0 + (l.map byE).length ≤ maxLen) := Lib.hid (by rw [List.length_map]; unfold maxLen; omega)
  have K2 : Hid ((0 + (l.map byE).length) * 1 ≤ 140737488355328) := Lib.hid (by rw [List.length_map]; omega)
  have HB0 := Lib.hid B0
  have HW := Lib.hid hW
  clear h B0 hW
  go_enter Tryz.func176, Tryz.ntmps176
  go_wp2_with (at_builtin; rw [HW.out]; refine wpList_append_sl rfl _ _ _ rfl w.heap.size 5 i0' _ 1 1 Tryz.underlying193 HI0.out HZ0.out HZ1.out HZ2.out rfl (by decide) _ 0 [] rfl O0.out _ (l.map byE) rfl SL.out (byE_len l) (byE_one l) K1.out K2.out HB0.out.size ?_; intro v4 w4 O4 G4; have O5 := with_mid O4; have B4 := Lib.hid (Below.owned HB0.out HB0.out.size O0.out G4); clear O4 G4; obtain ⟨g, cp, ev, g0, g1, g2, g3⟩ := own_shape O5 (by omega); subst ev; have OH := Lib.hid O5; have f0 := O5.frozenAt k; have f1 := O5.frozenAt (k + 1); have d0 := O5.cellAt k (by omega); have d1 := O5.cellAt (k + 1) (by omega); rw [byE_flat, List.getElem?_map, List.getElem?_eq_getElem (by omega)] at d0 d1; simp only [Option.map_some] at d0 d1; clear O5)
  have FIN : Hid (PutPost w.heap.size w ((l.set k 0).set (k + 1) 0) (.returned (.slice (some ⟨g, 0, none⟩) l.length cp)) ((w4.setCell ⟨g, k, none⟩ (.int .u8 0)).setCell ⟨g, k + 1, none⟩ (.int .u8 0))) := Lib.hid
    ⟨_, rfl, (OH.out.set rfl k 0).set (by simp) (k + 1) 0, (B4.out.setCell g0 _).setCell g0 _⟩
  clear OH B4 g0 g1 g2 g3 O0 SL
  go_ret
  exact FIN.out


def FlePost (w : World) (e : Ending) (w' : World) : Prop := ∃ (n : Int) (b : Bool), e = .returned (.tuple #[.int .i64 n, .bool b]) ∧ Below w.heap.size w w'

set_option maxHeartbeats 4000000 in
set_option maxRecDepth 100000 in
theorem fletcher_calls (w : World) (v : Value) (l : List Int) (h : BytesAt w v l) (hr : ∀ b ∈ l, 0 ≤ b ∧ b < 256) (hl : l.length ≤ 1000000) (h16 : 16 ≤ l.length) :
    Calls Tryz.prog 142 #[v, .int .i64 14] w (FlePost w) := by
  have WC := Lib.hid (with_calls w v l 14 h (by omega) hl)
  have HR : Hid (∀ b ∈ (l.set 14 0).set 15 0, 0 ≤ b ∧ b < 256) := Lib.hid (fun b hb => by
    rcases List.mem_or_eq_of_mem_set hb with hb | rfl
    · rcases List.mem_or_eq_of_mem_set hb with hb | rfl
      · exact hr b hb
      · omega
    · omega)
  have HL : Hid (((l.set 14 0).set 15 0).length ≤ 1000000) := Lib.hid (by simpa using hl)
  obtain ⟨a, cap, rfl, -⟩ := h.get
  clear h hr
  generalize (l.set 14 0).set (14 + 1) 0 = l2 at *
  have hn : 16 ≤ l.length := h16
  generalize l.length = n at *
  go_enter Tryz.func142, Tryz.ntmps142
  go_wp2_with fail
  refine WC.out.mono ?_
  rintro e w1 ⟨v1, rfl, O1, B1⟩
  have SC := Lib.hid (sums_calls w1 v1 l2 O1.at HR.out HL.out)
  have HB1 := Lib.hid B1
  clear WC O1 B1
  go_wp2_with fail
  refine SC.out.mono ?_
  rintro e w' ⟨s, t, rfl, s0, s1, t0, t1, rfl⟩
  clear SC
  have m0 : 0 ≤ ((n : Int) - 14) % 255 := by omega
  have m1 : ((n : Int) - 14) % 255 < 255 := by omega
  generalize hm : ((n : Int) - 14) % 255 = m at m0 m1
  go_wp2_with fail
  go_loop [9] (fun i => ∃ k : Nat, i = .int .i64 k ∧ 1 ≤ k ∧ k ≤ 256) (fun i => 256 - (intOf i).toNat)
  case atStart => exact ⟨1, rfl, by omega, by omega⟩
  case round =>
    obtain ⟨k, rfl, k1, k2⟩ := hrel
    by_cases c : k ≤ 255
    · have p0 : 0 ≤ m * (k : Int) := Int.mul_nonneg m0 (by omega)
      have p1 : m * (k : Int) ≤ 65025 := by
        have h1 : m * (k : Int) ≤ 255 * (k : Int) := Int.mul_le_mul_of_nonneg_right (by omega) (by omega)
        omega
      have y0 : 0 ≤ 255 - (s + (k : Int)) % 255 := by omega
      have y1 : 255 - (s + (k : Int)) % 255 ≤ 255 := by omega
      have z0 : 0 ≤ (m + 254) % 255 := by omega
      have z1 : (m + 254) % 255 < 255 := by omega
      have q0 : 0 ≤ (m + 254) % 255 * (255 - (s + (k : Int)) % 255) := Int.mul_nonneg z0 y0
      have q1 : (m + 254) % 255 * (255 - (s + (k : Int)) % 255) ≤ 65025 := by
        have h1 : (m + 254) % 255 * (255 - (s + (k : Int)) % 255) ≤ 255 * (255 - (s + (k : Int)) % 255) := Int.mul_le_mul_of_nonneg_right (by omega) y0
        omega
      go_wp2_with fail
      · go_ret2
        exact ⟨_, _, rfl, HB1.out⟩
      · go_round
        case rel => exact ⟨k + 1, by go_num, by omega, by omega⟩
        case measure => simp [intOf]; omega
    · go_wp2_with fail
      go_ret2
      exact ⟨_, _, rfl, HB1.out⟩

end Go.Proofs.YtogdconliofblaaGreat
