import Derived.Test.YtddageahmgaigaaGreatLca
namespace Go.Proofs.YtddageahmgaigaaGreat
open Go.RowKit

set_option maxHeartbeats 16000000 in
set_option maxRecDepth 100000 in
theorem foreign_calls (x : Lsa) (ht : 1 ≤ x.typ ∧ x.typ ≤ 5) (w : World) : Calls Tryz.prog 115 #[.agg (lsaE x).toArray] w fun e w' => e = .returned (.bool (!unusedP x)) ∧ Gr w w' := by
  obtain ⟨W0, hW0⟩ : ∃ W0, w.alloc (.cells (lsaE x).toArray 42) = W0 := ⟨_, rfl⟩
  have b0 : W0.heap[w.heap.size]? = some (.cells (lsaE x).toArray 42 (0, 0)) := by rw [← hW0]; exact alloc_new w _
  have G0 : Hid (Gr w W0) := Lib.hid (by rw [← hW0]; exact (Gr.refl _).alloc _)
  have O1 : Hid (∀ k W nb, nb = W.heap.size → Gr W0 W → Calls Tryz.prog 153 #[.slice (some ⟨nb, 0, none⟩) 1 1, .pointer (some ⟨w.heap.size, 0, none⟩)] (W.alloc (.cells #[.int .i64 k] 3)) fun e w' => e = .returned (.bool (decide (x.typ ∈ [k]))) ∧ W.alloc (.cells #[.int .i64 k] 3) = w') := Lib.hid (fun k W nb hnb g => by
    subst hnb
    exact own_calls (W.alloc (.cells #[.int .i64 k] 3)) x w.heap.size ((alloc_get _ _ _ (Nat.lt_of_lt_of_le (blk_lt b0) g.b.size)).trans ((g.b.block _ (blk_lt b0)).trans b0)) [k] (by simp) _ 1 (fun _ => ⟨W.heap.size, 0, rfl, fun i hi => by
      have : i = 0 := by simpa using hi
      subst this
      exact blk_cell (alloc_new W _) rfl⟩))
  have O3 : Hid (∀ W nb, nb = W.heap.size → Gr W0 W → Calls Tryz.prog 153 #[.slice (some ⟨nb, 0, none⟩) 3 3, .pointer (some ⟨w.heap.size, 0, none⟩)] (W.alloc (.cells #[.int .i64 3, .int .i64 4, .int .i64 5] 3)) fun e w' => e = .returned (.bool (decide (x.typ ∈ [3, 4, 5]))) ∧ W.alloc (.cells #[.int .i64 3, .int .i64 4, .int .i64 5] 3) = w') := Lib.hid (fun W nb hnb g => by
    subst hnb
    exact own_calls (W.alloc (.cells #[.int .i64 3, .int .i64 4, .int .i64 5] 3)) x w.heap.size ((alloc_get _ _ _ (Nat.lt_of_lt_of_le (blk_lt b0) g.b.size)).trans ((g.b.block _ (blk_lt b0)).trans b0)) [3, 4, 5] (by simp) _ 3 (fun _ => ⟨W.heap.size, 0, rfl, fun i hi => by
      match i, hi with
      | 0, _ => exact blk_cell (alloc_new W _) rfl
      | 1, _ => exact blk_cell (alloc_new W _) rfl
      | 2, _ => exact blk_cell (alloc_new W _) rfl⟩))
  obtain ⟨typ, id, len, router, seq, age, sum, border, boundary, la, ln, lc, aa, an, ac, cost, second, fwd, tag⟩ := x
  unfold lsaE at hW0
  simp only [lsaE] at b0
  simp only at O1 O3 hW0
  have BX := Lib.hid b0
  clear b0
  show Calls Tryz.prog 115 #[.agg #[.int .i64 typ, .int .u32 id, .int .i64 len, .int .u32 router, .int .i64 seq, .int .i64 age, .int .i64 sum, .bool border, .bool boundary, .slice la ln lc, .slice aa an ac, .int .i64 cost, .bool second, .int .u32 fwd, .int .i64 tag]] w _
  have HW0 := Lib.hid hW0
  clear hW0
  have tt : typ = 1 ∨ typ = 2 ∨ typ = 3 ∨ typ = 4 ∨ typ = 5 := by simp only at ht; omega
  clear ht
  rcases tt with rfl | rfl | rfl | rfl | rfl
  · have P1 : Hid (∀ W nb, nb = W.heap.size → Gr W0 W → Calls Tryz.prog 153 #[.slice (some ⟨nb, 0, none⟩) 1 1, .pointer (some ⟨w.heap.size, 0, none⟩)] (W.alloc (.cells #[.int .i64 1] 3)) fun e w' => e = .returned (.bool true) ∧ W.alloc (.cells #[.int .i64 1] 3) = w' ∧ w'.cell? ⟨w.heap.size, 7, none⟩ = some (.bool border) ∧ w'.cell? ⟨w.heap.size, 8, none⟩ = some (.bool boundary) ∧ w'.cell? ⟨w.heap.size, 9, none⟩ = some (.slice la ln lc)) := Lib.hid (fun W nb hnb g => by have h := O1.out 1 W nb hnb g; rw [show decide ((1 : Int) ∈ [(1 : Int)]) = true from by decide] at h; have hb := ((alloc_get W (.cells #[.int .i64 1] 3) _ (Nat.lt_of_lt_of_le (blk_lt BX.out) g.b.size)).trans ((g.b.block _ (blk_lt BX.out)).trans BX.out)); exact h.mono fun e w' hh => ⟨hh.1, hh.2, by rw [← hh.2]; exact ⟨blk_cell hb rfl, blk_cell hb rfl, blk_cell hb rfl⟩⟩)
    have P2 : Hid (∀ W nb, nb = W.heap.size → Gr W0 W → Calls Tryz.prog 153 #[.slice (some ⟨nb, 0, none⟩) 1 1, .pointer (some ⟨w.heap.size, 0, none⟩)] (W.alloc (.cells #[.int .i64 2] 3)) fun e w' => e = .returned (.bool false) ∧ W.alloc (.cells #[.int .i64 2] 3) = w' ∧ w'.cell? ⟨w.heap.size, 10, none⟩ = some (.slice aa an ac)) := Lib.hid (fun W nb hnb g => by have h := O1.out 2 W nb hnb g; rw [show decide ((1 : Int) ∈ [(2 : Int)]) = false from by decide] at h; have hb := ((alloc_get W (.cells #[.int .i64 2] 3) _ (Nat.lt_of_lt_of_le (blk_lt BX.out) g.b.size)).trans ((g.b.block _ (blk_lt BX.out)).trans BX.out)); exact h.mono fun e w' hh => ⟨hh.1, hh.2, by rw [← hh.2]; exact blk_cell hb rfl⟩)
    have P5 : Hid (∀ W nb, nb = W.heap.size → Gr W0 W → Calls Tryz.prog 153 #[.slice (some ⟨nb, 0, none⟩) 1 1, .pointer (some ⟨w.heap.size, 0, none⟩)] (W.alloc (.cells #[.int .i64 5] 3)) fun e w' => e = .returned (.bool false) ∧ W.alloc (.cells #[.int .i64 5] 3) = w' ∧ w'.cell? ⟨w.heap.size, 12, none⟩ = some (.bool second) ∧ w'.cell? ⟨w.heap.size, 13, none⟩ = some (.int .u32 fwd) ∧ w'.cell? ⟨w.heap.size, 14, none⟩ = some (.int .i64 tag)) := Lib.hid (fun W nb hnb g => by have h := O1.out 5 W nb hnb g; rw [show decide ((1 : Int) ∈ [(5 : Int)]) = false from by decide] at h; have hb := ((alloc_get W (.cells #[.int .i64 5] 3) _ (Nat.lt_of_lt_of_le (blk_lt BX.out) g.b.size)).trans ((g.b.block _ (blk_lt BX.out)).trans BX.out)); exact h.mono fun e w' hh => ⟨hh.1, hh.2, by rw [← hh.2]; exact ⟨blk_cell hb rfl, blk_cell hb rfl, blk_cell hb rfl⟩⟩)
    have P3 : Hid (∀ W nb, nb = W.heap.size → Gr W0 W → Calls Tryz.prog 153 #[.slice (some ⟨nb, 0, none⟩) 3 3, .pointer (some ⟨w.heap.size, 0, none⟩)] (W.alloc (.cells #[.int .i64 3, .int .i64 4, .int .i64 5] 3)) fun e w' => e = .returned (.bool false) ∧ W.alloc (.cells #[.int .i64 3, .int .i64 4, .int .i64 5] 3) = w' ∧ w'.cell? ⟨w.heap.size, 11, none⟩ = some (.int .i64 cost)) := Lib.hid (fun W nb hnb g => by have h := O3.out W nb hnb g; rw [show decide ((1 : Int) ∈ [(3 : Int), 4, 5]) = false from by decide] at h; have hb := ((alloc_get W (.cells #[.int .i64 3, .int .i64 4, .int .i64 5] 3) _ (Nat.lt_of_lt_of_le (blk_lt BX.out) g.b.size)).trans ((g.b.block _ (blk_lt BX.out)).trans BX.out)); exact h.mono fun e w' hh => ⟨hh.1, hh.2, by rw [← hh.2]; exact blk_cell hb rfl⟩)
    clear O1 O3
    by_cases han : 0 < an
    · have dan : decide ((an : Int) > 0) = true := by simpa using han
      have E : Hid ((!unusedP ⟨1, id, len, router, seq, age, sum, border, boundary, la, ln, lc, aa, an, ac, cost, second, fwd, tag⟩) = true) := Lib.hid (by simp [unusedP, han])
      rw [E.out]
      clear E
      obtain ⟨⟨⟨x0, x1, x2, x3, x4⟩, ⟨x5, x6, x7, x8, x9⟩, ⟨x10, x11, x12, x13, x14⟩⟩, -⟩ := blk15 BX.out
      go_enter Tryz.func115, Tryz.ntmps115
      go_upto_region 2 with fail
      rw [HW0.out]
      go_wp2_with (first | (go_at_call 153; ((with_reducible refine (P1.out _ _ (by simp) (by repeat (first | exact Gr.refl _ | refine Gr.alloc ?_ _))).mono ?_)); rintro e w' ⟨rfl, rfl, y10, y11, y12⟩) | (go_at_call 153; ((with_reducible refine (P2.out _ _ (by simp) (by repeat (first | exact Gr.refl _ | refine Gr.alloc ?_ _))).mono ?_)); rintro e w' ⟨rfl, rfl, y20⟩) | (go_at_call 153; ((with_reducible refine (P3.out _ _ (by simp) (by repeat (first | exact Gr.refl _ | refine Gr.alloc ?_ _))).mono ?_)); rintro e w' ⟨rfl, rfl, y30⟩) | (go_at_call 153; ((with_reducible refine (P5.out _ _ (by simp) (by repeat (first | exact Gr.refl _ | refine Gr.alloc ?_ _))).mono ?_)); rintro e w' ⟨rfl, rfl, y50, y51, y52⟩))
      go_ret
      exact ⟨rfl, G0.out.trans (by repeat (first | exact Gr.refl _ | refine Gr.alloc ?_ _))⟩
    · obtain rfl : an = 0 := by omega
      by_cases hcost : cost = 0
      · subst hcost
        cases second with
        | true =>
          have E : Hid ((!unusedP ⟨1, id, len, router, seq, age, sum, border, boundary, la, ln, lc, aa, 0, ac, 0, true, fwd, tag⟩) = true) := Lib.hid (by simp [unusedP])
          rw [E.out]
          clear E
          obtain ⟨⟨⟨x0, x1, x2, x3, x4⟩, ⟨x5, x6, x7, x8, x9⟩, ⟨x10, x11, x12, x13, x14⟩⟩, -⟩ := blk15 BX.out
          go_enter Tryz.func115, Tryz.ntmps115
          go_upto_region 2 with fail
          rw [HW0.out]
          go_wp2_with (first | (go_at_call 153; ((with_reducible refine (P1.out _ _ (by simp) (by repeat (first | exact Gr.refl _ | refine Gr.alloc ?_ _))).mono ?_)); rintro e w' ⟨rfl, rfl, y10, y11, y12⟩) | (go_at_call 153; ((with_reducible refine (P2.out _ _ (by simp) (by repeat (first | exact Gr.refl _ | refine Gr.alloc ?_ _))).mono ?_)); rintro e w' ⟨rfl, rfl, y20⟩) | (go_at_call 153; ((with_reducible refine (P3.out _ _ (by simp) (by repeat (first | exact Gr.refl _ | refine Gr.alloc ?_ _))).mono ?_)); rintro e w' ⟨rfl, rfl, y30⟩) | (go_at_call 153; ((with_reducible refine (P5.out _ _ (by simp) (by repeat (first | exact Gr.refl _ | refine Gr.alloc ?_ _))).mono ?_)); rintro e w' ⟨rfl, rfl, y50, y51, y52⟩))
          go_ret
          exact ⟨rfl, G0.out.trans (by repeat (first | exact Gr.refl _ | refine Gr.alloc ?_ _))⟩
        | false =>
        by_cases hfwd : fwd = 0
        · subst hfwd
          by_cases htag : tag = 0
          · subst htag
            have E : Hid ((!unusedP ⟨1, id, len, router, seq, age, sum, border, boundary, la, ln, lc, aa, 0, ac, 0, false, 0, 0⟩) = false) := Lib.hid (by simp [unusedP])
            rw [E.out]
            clear E
            obtain ⟨⟨⟨x0, x1, x2, x3, x4⟩, ⟨x5, x6, x7, x8, x9⟩, ⟨x10, x11, x12, x13, x14⟩⟩, -⟩ := blk15 BX.out
            go_enter Tryz.func115, Tryz.ntmps115
            go_upto_region 2 with fail
            rw [HW0.out]
            go_wp2_with (first | (go_at_call 153; ((with_reducible refine (P1.out _ _ (by simp) (by repeat (first | exact Gr.refl _ | refine Gr.alloc ?_ _))).mono ?_)); rintro e w' ⟨rfl, rfl, y10, y11, y12⟩) | (go_at_call 153; ((with_reducible refine (P2.out _ _ (by simp) (by repeat (first | exact Gr.refl _ | refine Gr.alloc ?_ _))).mono ?_)); rintro e w' ⟨rfl, rfl, y20⟩) | (go_at_call 153; ((with_reducible refine (P3.out _ _ (by simp) (by repeat (first | exact Gr.refl _ | refine Gr.alloc ?_ _))).mono ?_)); rintro e w' ⟨rfl, rfl, y30⟩) | (go_at_call 153; ((with_reducible refine (P5.out _ _ (by simp) (by repeat (first | exact Gr.refl _ | refine Gr.alloc ?_ _))).mono ?_)); rintro e w' ⟨rfl, rfl, y50, y51, y52⟩))
            go_ret
            exact ⟨rfl, G0.out.trans (by repeat (first | exact Gr.refl _ | refine Gr.alloc ?_ _))⟩
          · have dtag : (tag == 0) = false := by simpa using htag
            have etag : (tag != 0) = true := by simpa using htag
            have E : Hid ((!unusedP ⟨1, id, len, router, seq, age, sum, border, boundary, la, ln, lc, aa, 0, ac, 0, false, 0, tag⟩) = true) := Lib.hid (by simp [unusedP, htag])
            rw [E.out]
            clear E
            obtain ⟨⟨⟨x0, x1, x2, x3, x4⟩, ⟨x5, x6, x7, x8, x9⟩, ⟨x10, x11, x12, x13, x14⟩⟩, -⟩ := blk15 BX.out
            go_enter Tryz.func115, Tryz.ntmps115
            go_upto_region 2 with fail
            rw [HW0.out]
            go_wp2_with (first | (go_at_call 153; ((with_reducible refine (P1.out _ _ (by simp) (by repeat (first | exact Gr.refl _ | refine Gr.alloc ?_ _))).mono ?_)); rintro e w' ⟨rfl, rfl, y10, y11, y12⟩) | (go_at_call 153; ((with_reducible refine (P2.out _ _ (by simp) (by repeat (first | exact Gr.refl _ | refine Gr.alloc ?_ _))).mono ?_)); rintro e w' ⟨rfl, rfl, y20⟩) | (go_at_call 153; ((with_reducible refine (P3.out _ _ (by simp) (by repeat (first | exact Gr.refl _ | refine Gr.alloc ?_ _))).mono ?_)); rintro e w' ⟨rfl, rfl, y30⟩) | (go_at_call 153; ((with_reducible refine (P5.out _ _ (by simp) (by repeat (first | exact Gr.refl _ | refine Gr.alloc ?_ _))).mono ?_)); rintro e w' ⟨rfl, rfl, y50, y51, y52⟩))
            go_ret
            exact ⟨rfl, G0.out.trans (by repeat (first | exact Gr.refl _ | refine Gr.alloc ?_ _))⟩
        · have dfwd : (fwd == 0) = false := by simpa using hfwd
          have efwd : (fwd != 0) = true := by simpa using hfwd
          have E : Hid ((!unusedP ⟨1, id, len, router, seq, age, sum, border, boundary, la, ln, lc, aa, 0, ac, 0, false, fwd, tag⟩) = true) := Lib.hid (by simp [unusedP, hfwd])
          rw [E.out]
          clear E
          obtain ⟨⟨⟨x0, x1, x2, x3, x4⟩, ⟨x5, x6, x7, x8, x9⟩, ⟨x10, x11, x12, x13, x14⟩⟩, -⟩ := blk15 BX.out
          go_enter Tryz.func115, Tryz.ntmps115
          go_upto_region 2 with fail
          rw [HW0.out]
          go_wp2_with (first | (go_at_call 153; ((with_reducible refine (P1.out _ _ (by simp) (by repeat (first | exact Gr.refl _ | refine Gr.alloc ?_ _))).mono ?_)); rintro e w' ⟨rfl, rfl, y10, y11, y12⟩) | (go_at_call 153; ((with_reducible refine (P2.out _ _ (by simp) (by repeat (first | exact Gr.refl _ | refine Gr.alloc ?_ _))).mono ?_)); rintro e w' ⟨rfl, rfl, y20⟩) | (go_at_call 153; ((with_reducible refine (P3.out _ _ (by simp) (by repeat (first | exact Gr.refl _ | refine Gr.alloc ?_ _))).mono ?_)); rintro e w' ⟨rfl, rfl, y30⟩) | (go_at_call 153; ((with_reducible refine (P5.out _ _ (by simp) (by repeat (first | exact Gr.refl _ | refine Gr.alloc ?_ _))).mono ?_)); rintro e w' ⟨rfl, rfl, y50, y51, y52⟩))
          go_ret
          exact ⟨rfl, G0.out.trans (by repeat (first | exact Gr.refl _ | refine Gr.alloc ?_ _))⟩
      · have dcost : (cost == 0) = false := by simpa using hcost
        have ecost : (cost != 0) = true := by simpa using hcost
        have E : Hid ((!unusedP ⟨1, id, len, router, seq, age, sum, border, boundary, la, ln, lc, aa, 0, ac, cost, second, fwd, tag⟩) = true) := Lib.hid (by simp [unusedP, hcost])
        rw [E.out]
        clear E
        obtain ⟨⟨⟨x0, x1, x2, x3, x4⟩, ⟨x5, x6, x7, x8, x9⟩, ⟨x10, x11, x12, x13, x14⟩⟩, -⟩ := blk15 BX.out
        go_enter Tryz.func115, Tryz.ntmps115
        go_upto_region 2 with fail
        rw [HW0.out]
        go_wp2_with (first | (go_at_call 153; ((with_reducible refine (P1.out _ _ (by simp) (by repeat (first | exact Gr.refl _ | refine Gr.alloc ?_ _))).mono ?_)); rintro e w' ⟨rfl, rfl, y10, y11, y12⟩) | (go_at_call 153; ((with_reducible refine (P2.out _ _ (by simp) (by repeat (first | exact Gr.refl _ | refine Gr.alloc ?_ _))).mono ?_)); rintro e w' ⟨rfl, rfl, y20⟩) | (go_at_call 153; ((with_reducible refine (P3.out _ _ (by simp) (by repeat (first | exact Gr.refl _ | refine Gr.alloc ?_ _))).mono ?_)); rintro e w' ⟨rfl, rfl, y30⟩) | (go_at_call 153; ((with_reducible refine (P5.out _ _ (by simp) (by repeat (first | exact Gr.refl _ | refine Gr.alloc ?_ _))).mono ?_)); rintro e w' ⟨rfl, rfl, y50, y51, y52⟩))
        go_ret
        exact ⟨rfl, G0.out.trans (by repeat (first | exact Gr.refl _ | refine Gr.alloc ?_ _))⟩
  · have P1 : Hid (∀ W nb, nb = W.heap.size → Gr W0 W → Calls Tryz.prog 153 #[.slice (some ⟨nb, 0, none⟩) 1 1, .pointer (some ⟨w.heap.size, 0, none⟩)] (W.alloc (.cells #[.int .i64 1] 3)) fun e w' => e = .returned (.bool false) ∧ W.alloc (.cells #[.int .i64 1] 3) = w' ∧ w'.cell? ⟨w.heap.size, 7, none⟩ = some (.bool border) ∧ w'.cell? ⟨w.heap.size, 8, none⟩ = some (.bool boundary) ∧ w'.cell? ⟨w.heap.size, 9, none⟩ = some (.slice la ln lc)) := Lib.hid (fun W nb hnb g => by have h := O1.out 1 W nb hnb g; rw [show decide ((2 : Int) ∈ [(1 : Int)]) = false from by decide] at h; have hb := ((alloc_get W (.cells #[.int .i64 1] 3) _ (Nat.lt_of_lt_of_le (blk_lt BX.out) g.b.size)).trans ((g.b.block _ (blk_lt BX.out)).trans BX.out)); exact h.mono fun e w' hh => ⟨hh.1, hh.2, by rw [← hh.2]; exact ⟨blk_cell hb rfl, blk_cell hb rfl, blk_cell hb rfl⟩⟩)
    have P2 : Hid (∀ W nb, nb = W.heap.size → Gr W0 W → Calls Tryz.prog 153 #[.slice (some ⟨nb, 0, none⟩) 1 1, .pointer (some ⟨w.heap.size, 0, none⟩)] (W.alloc (.cells #[.int .i64 2] 3)) fun e w' => e = .returned (.bool true) ∧ W.alloc (.cells #[.int .i64 2] 3) = w' ∧ w'.cell? ⟨w.heap.size, 10, none⟩ = some (.slice aa an ac)) := Lib.hid (fun W nb hnb g => by have h := O1.out 2 W nb hnb g; rw [show decide ((2 : Int) ∈ [(2 : Int)]) = true from by decide] at h; have hb := ((alloc_get W (.cells #[.int .i64 2] 3) _ (Nat.lt_of_lt_of_le (blk_lt BX.out) g.b.size)).trans ((g.b.block _ (blk_lt BX.out)).trans BX.out)); exact h.mono fun e w' hh => ⟨hh.1, hh.2, by rw [← hh.2]; exact blk_cell hb rfl⟩)
    have P5 : Hid (∀ W nb, nb = W.heap.size → Gr W0 W → Calls Tryz.prog 153 #[.slice (some ⟨nb, 0, none⟩) 1 1, .pointer (some ⟨w.heap.size, 0, none⟩)] (W.alloc (.cells #[.int .i64 5] 3)) fun e w' => e = .returned (.bool false) ∧ W.alloc (.cells #[.int .i64 5] 3) = w' ∧ w'.cell? ⟨w.heap.size, 12, none⟩ = some (.bool second) ∧ w'.cell? ⟨w.heap.size, 13, none⟩ = some (.int .u32 fwd) ∧ w'.cell? ⟨w.heap.size, 14, none⟩ = some (.int .i64 tag)) := Lib.hid (fun W nb hnb g => by have h := O1.out 5 W nb hnb g; rw [show decide ((2 : Int) ∈ [(5 : Int)]) = false from by decide] at h; have hb := ((alloc_get W (.cells #[.int .i64 5] 3) _ (Nat.lt_of_lt_of_le (blk_lt BX.out) g.b.size)).trans ((g.b.block _ (blk_lt BX.out)).trans BX.out)); exact h.mono fun e w' hh => ⟨hh.1, hh.2, by rw [← hh.2]; exact ⟨blk_cell hb rfl, blk_cell hb rfl, blk_cell hb rfl⟩⟩)
    have P3 : Hid (∀ W nb, nb = W.heap.size → Gr W0 W → Calls Tryz.prog 153 #[.slice (some ⟨nb, 0, none⟩) 3 3, .pointer (some ⟨w.heap.size, 0, none⟩)] (W.alloc (.cells #[.int .i64 3, .int .i64 4, .int .i64 5] 3)) fun e w' => e = .returned (.bool false) ∧ W.alloc (.cells #[.int .i64 3, .int .i64 4, .int .i64 5] 3) = w' ∧ w'.cell? ⟨w.heap.size, 11, none⟩ = some (.int .i64 cost)) := Lib.hid (fun W nb hnb g => by have h := O3.out W nb hnb g; rw [show decide ((2 : Int) ∈ [(3 : Int), 4, 5]) = false from by decide] at h; have hb := ((alloc_get W (.cells #[.int .i64 3, .int .i64 4, .int .i64 5] 3) _ (Nat.lt_of_lt_of_le (blk_lt BX.out) g.b.size)).trans ((g.b.block _ (blk_lt BX.out)).trans BX.out)); exact h.mono fun e w' hh => ⟨hh.1, hh.2, by rw [← hh.2]; exact blk_cell hb rfl⟩)
    clear O1 O3
    cases border with
    | true =>
      have E : Hid ((!unusedP ⟨2, id, len, router, seq, age, sum, true, boundary, la, ln, lc, aa, an, ac, cost, second, fwd, tag⟩) = true) := Lib.hid (by simp [unusedP])
      rw [E.out]
      clear E
      obtain ⟨⟨⟨x0, x1, x2, x3, x4⟩, ⟨x5, x6, x7, x8, x9⟩, ⟨x10, x11, x12, x13, x14⟩⟩, -⟩ := blk15 BX.out
      go_enter Tryz.func115, Tryz.ntmps115
      go_upto_region 2 with fail
      rw [HW0.out]
      go_wp2_with (first | (go_at_call 153; ((with_reducible refine (P1.out _ _ (by simp) (by repeat (first | exact Gr.refl _ | refine Gr.alloc ?_ _))).mono ?_)); rintro e w' ⟨rfl, rfl, y10, y11, y12⟩) | (go_at_call 153; ((with_reducible refine (P2.out _ _ (by simp) (by repeat (first | exact Gr.refl _ | refine Gr.alloc ?_ _))).mono ?_)); rintro e w' ⟨rfl, rfl, y20⟩) | (go_at_call 153; ((with_reducible refine (P3.out _ _ (by simp) (by repeat (first | exact Gr.refl _ | refine Gr.alloc ?_ _))).mono ?_)); rintro e w' ⟨rfl, rfl, y30⟩) | (go_at_call 153; ((with_reducible refine (P5.out _ _ (by simp) (by repeat (first | exact Gr.refl _ | refine Gr.alloc ?_ _))).mono ?_)); rintro e w' ⟨rfl, rfl, y50, y51, y52⟩))
      go_ret
      exact ⟨rfl, G0.out.trans (by repeat (first | exact Gr.refl _ | refine Gr.alloc ?_ _))⟩
    | false =>
    cases boundary with
    | true =>
      have E : Hid ((!unusedP ⟨2, id, len, router, seq, age, sum, false, true, la, ln, lc, aa, an, ac, cost, second, fwd, tag⟩) = true) := Lib.hid (by simp [unusedP])
      rw [E.out]
      clear E
      obtain ⟨⟨⟨x0, x1, x2, x3, x4⟩, ⟨x5, x6, x7, x8, x9⟩, ⟨x10, x11, x12, x13, x14⟩⟩, -⟩ := blk15 BX.out
      go_enter Tryz.func115, Tryz.ntmps115
      go_upto_region 2 with fail
      rw [HW0.out]
      go_wp2_with (first | (go_at_call 153; ((with_reducible refine (P1.out _ _ (by simp) (by repeat (first | exact Gr.refl _ | refine Gr.alloc ?_ _))).mono ?_)); rintro e w' ⟨rfl, rfl, y10, y11, y12⟩) | (go_at_call 153; ((with_reducible refine (P2.out _ _ (by simp) (by repeat (first | exact Gr.refl _ | refine Gr.alloc ?_ _))).mono ?_)); rintro e w' ⟨rfl, rfl, y20⟩) | (go_at_call 153; ((with_reducible refine (P3.out _ _ (by simp) (by repeat (first | exact Gr.refl _ | refine Gr.alloc ?_ _))).mono ?_)); rintro e w' ⟨rfl, rfl, y30⟩) | (go_at_call 153; ((with_reducible refine (P5.out _ _ (by simp) (by repeat (first | exact Gr.refl _ | refine Gr.alloc ?_ _))).mono ?_)); rintro e w' ⟨rfl, rfl, y50, y51, y52⟩))
      go_ret
      exact ⟨rfl, G0.out.trans (by repeat (first | exact Gr.refl _ | refine Gr.alloc ?_ _))⟩
    | false =>
    by_cases hln : 0 < ln
    · have dln : decide ((ln : Int) > 0) = true := by simpa using hln
      have E : Hid ((!unusedP ⟨2, id, len, router, seq, age, sum, false, false, la, ln, lc, aa, an, ac, cost, second, fwd, tag⟩) = true) := Lib.hid (by simp [unusedP, hln])
      rw [E.out]
      clear E
      obtain ⟨⟨⟨x0, x1, x2, x3, x4⟩, ⟨x5, x6, x7, x8, x9⟩, ⟨x10, x11, x12, x13, x14⟩⟩, -⟩ := blk15 BX.out
      go_enter Tryz.func115, Tryz.ntmps115
      go_upto_region 2 with fail
      rw [HW0.out]
      go_wp2_with (first | (go_at_call 153; ((with_reducible refine (P1.out _ _ (by simp) (by repeat (first | exact Gr.refl _ | refine Gr.alloc ?_ _))).mono ?_)); rintro e w' ⟨rfl, rfl, y10, y11, y12⟩) | (go_at_call 153; ((with_reducible refine (P2.out _ _ (by simp) (by repeat (first | exact Gr.refl _ | refine Gr.alloc ?_ _))).mono ?_)); rintro e w' ⟨rfl, rfl, y20⟩) | (go_at_call 153; ((with_reducible refine (P3.out _ _ (by simp) (by repeat (first | exact Gr.refl _ | refine Gr.alloc ?_ _))).mono ?_)); rintro e w' ⟨rfl, rfl, y30⟩) | (go_at_call 153; ((with_reducible refine (P5.out _ _ (by simp) (by repeat (first | exact Gr.refl _ | refine Gr.alloc ?_ _))).mono ?_)); rintro e w' ⟨rfl, rfl, y50, y51, y52⟩))
      go_ret
      exact ⟨rfl, G0.out.trans (by repeat (first | exact Gr.refl _ | refine Gr.alloc ?_ _))⟩
    · obtain rfl : ln = 0 := by omega
      by_cases hcost : cost = 0
      · subst hcost
        cases second with
        | true =>
          have E : Hid ((!unusedP ⟨2, id, len, router, seq, age, sum, false, false, la, 0, lc, aa, an, ac, 0, true, fwd, tag⟩) = true) := Lib.hid (by simp [unusedP])
          rw [E.out]
          clear E
          obtain ⟨⟨⟨x0, x1, x2, x3, x4⟩, ⟨x5, x6, x7, x8, x9⟩, ⟨x10, x11, x12, x13, x14⟩⟩, -⟩ := blk15 BX.out
          go_enter Tryz.func115, Tryz.ntmps115
          go_upto_region 2 with fail
          rw [HW0.out]
          go_wp2_with (first | (go_at_call 153; ((with_reducible refine (P1.out _ _ (by simp) (by repeat (first | exact Gr.refl _ | refine Gr.alloc ?_ _))).mono ?_)); rintro e w' ⟨rfl, rfl, y10, y11, y12⟩) | (go_at_call 153; ((with_reducible refine (P2.out _ _ (by simp) (by repeat (first | exact Gr.refl _ | refine Gr.alloc ?_ _))).mono ?_)); rintro e w' ⟨rfl, rfl, y20⟩) | (go_at_call 153; ((with_reducible refine (P3.out _ _ (by simp) (by repeat (first | exact Gr.refl _ | refine Gr.alloc ?_ _))).mono ?_)); rintro e w' ⟨rfl, rfl, y30⟩) | (go_at_call 153; ((with_reducible refine (P5.out _ _ (by simp) (by repeat (first | exact Gr.refl _ | refine Gr.alloc ?_ _))).mono ?_)); rintro e w' ⟨rfl, rfl, y50, y51, y52⟩))
          go_ret
          exact ⟨rfl, G0.out.trans (by repeat (first | exact Gr.refl _ | refine Gr.alloc ?_ _))⟩
        | false =>
        by_cases hfwd : fwd = 0
        · subst hfwd
          by_cases htag : tag = 0
          · subst htag
            have E : Hid ((!unusedP ⟨2, id, len, router, seq, age, sum, false, false, la, 0, lc, aa, an, ac, 0, false, 0, 0⟩) = false) := Lib.hid (by simp [unusedP])
            rw [E.out]
            clear E
            obtain ⟨⟨⟨x0, x1, x2, x3, x4⟩, ⟨x5, x6, x7, x8, x9⟩, ⟨x10, x11, x12, x13, x14⟩⟩, -⟩ := blk15 BX.out
            go_enter Tryz.func115, Tryz.ntmps115
            go_upto_region 2 with fail
            rw [HW0.out]
            go_wp2_with (first | (go_at_call 153; ((with_reducible refine (P1.out _ _ (by simp) (by repeat (first | exact Gr.refl _ | refine Gr.alloc ?_ _))).mono ?_)); rintro e w' ⟨rfl, rfl, y10, y11, y12⟩) | (go_at_call 153; ((with_reducible refine (P2.out _ _ (by simp) (by repeat (first | exact Gr.refl _ | refine Gr.alloc ?_ _))).mono ?_)); rintro e w' ⟨rfl, rfl, y20⟩) | (go_at_call 153; ((with_reducible refine (P3.out _ _ (by simp) (by repeat (first | exact Gr.refl _ | refine Gr.alloc ?_ _))).mono ?_)); rintro e w' ⟨rfl, rfl, y30⟩) | (go_at_call 153; ((with_reducible refine (P5.out _ _ (by simp) (by repeat (first | exact Gr.refl _ | refine Gr.alloc ?_ _))).mono ?_)); rintro e w' ⟨rfl, rfl, y50, y51, y52⟩))
            go_ret
            exact ⟨rfl, G0.out.trans (by repeat (first | exact Gr.refl _ | refine Gr.alloc ?_ _))⟩
          · have dtag : (tag == 0) = false := by simpa using htag
            have etag : (tag != 0) = true := by simpa using htag
            have E : Hid ((!unusedP ⟨2, id, len, router, seq, age, sum, false, false, la, 0, lc, aa, an, ac, 0, false, 0, tag⟩) = true) := Lib.hid (by simp [unusedP, htag])
            rw [E.out]
            clear E
            obtain ⟨⟨⟨x0, x1, x2, x3, x4⟩, ⟨x5, x6, x7, x8, x9⟩, ⟨x10, x11, x12, x13, x14⟩⟩, -⟩ := blk15 BX.out
            go_enter Tryz.func115, Tryz.ntmps115
            go_upto_region 2 with fail
            rw [HW0.out]
            go_wp2_with (first | (go_at_call 153; ((with_reducible refine (P1.out _ _ (by simp) (by repeat (first | exact Gr.refl _ | refine Gr.alloc ?_ _))).mono ?_)); rintro e w' ⟨rfl, rfl, y10, y11, y12⟩) | (go_at_call 153; ((with_reducible refine (P2.out _ _ (by simp) (by repeat (first | exact Gr.refl _ | refine Gr.alloc ?_ _))).mono ?_)); rintro e w' ⟨rfl, rfl, y20⟩) | (go_at_call 153; ((with_reducible refine (P3.out _ _ (by simp) (by repeat (first | exact Gr.refl _ | refine Gr.alloc ?_ _))).mono ?_)); rintro e w' ⟨rfl, rfl, y30⟩) | (go_at_call 153; ((with_reducible refine (P5.out _ _ (by simp) (by repeat (first | exact Gr.refl _ | refine Gr.alloc ?_ _))).mono ?_)); rintro e w' ⟨rfl, rfl, y50, y51, y52⟩))
            go_ret
            exact ⟨rfl, G0.out.trans (by repeat (first | exact Gr.refl _ | refine Gr.alloc ?_ _))⟩
        · have dfwd : (fwd == 0) = false := by simpa using hfwd
          have efwd : (fwd != 0) = true := by simpa using hfwd
          have E : Hid ((!unusedP ⟨2, id, len, router, seq, age, sum, false, false, la, 0, lc, aa, an, ac, 0, false, fwd, tag⟩) = true) := Lib.hid (by simp [unusedP, hfwd])
          rw [E.out]
          clear E
          obtain ⟨⟨⟨x0, x1, x2, x3, x4⟩, ⟨x5, x6, x7, x8, x9⟩, ⟨x10, x11, x12, x13, x14⟩⟩, -⟩ := blk15 BX.out
          go_enter Tryz.func115, Tryz.ntmps115
          go_upto_region 2 with fail
          rw [HW0.out]
          go_wp2_with (first | (go_at_call 153; ((with_reducible refine (P1.out _ _ (by simp) (by repeat (first | exact Gr.refl _ | refine Gr.alloc ?_ _))).mono ?_)); rintro e w' ⟨rfl, rfl, y10, y11, y12⟩) | (go_at_call 153; ((with_reducible refine (P2.out _ _ (by simp) (by repeat (first | exact Gr.refl _ | refine Gr.alloc ?_ _))).mono ?_)); rintro e w' ⟨rfl, rfl, y20⟩) | (go_at_call 153; ((with_reducible refine (P3.out _ _ (by simp) (by repeat (first | exact Gr.refl _ | refine Gr.alloc ?_ _))).mono ?_)); rintro e w' ⟨rfl, rfl, y30⟩) | (go_at_call 153; ((with_reducible refine (P5.out _ _ (by simp) (by repeat (first | exact Gr.refl _ | refine Gr.alloc ?_ _))).mono ?_)); rintro e w' ⟨rfl, rfl, y50, y51, y52⟩))
          go_ret
          exact ⟨rfl, G0.out.trans (by repeat (first | exact Gr.refl _ | refine Gr.alloc ?_ _))⟩
      · have dcost : (cost == 0) = false := by simpa using hcost
        have ecost : (cost != 0) = true := by simpa using hcost
        have E : Hid ((!unusedP ⟨2, id, len, router, seq, age, sum, false, false, la, 0, lc, aa, an, ac, cost, second, fwd, tag⟩) = true) := Lib.hid (by simp [unusedP, hcost])
        rw [E.out]
        clear E
        obtain ⟨⟨⟨x0, x1, x2, x3, x4⟩, ⟨x5, x6, x7, x8, x9⟩, ⟨x10, x11, x12, x13, x14⟩⟩, -⟩ := blk15 BX.out
        go_enter Tryz.func115, Tryz.ntmps115
        go_upto_region 2 with fail
        rw [HW0.out]
        go_wp2_with (first | (go_at_call 153; ((with_reducible refine (P1.out _ _ (by simp) (by repeat (first | exact Gr.refl _ | refine Gr.alloc ?_ _))).mono ?_)); rintro e w' ⟨rfl, rfl, y10, y11, y12⟩) | (go_at_call 153; ((with_reducible refine (P2.out _ _ (by simp) (by repeat (first | exact Gr.refl _ | refine Gr.alloc ?_ _))).mono ?_)); rintro e w' ⟨rfl, rfl, y20⟩) | (go_at_call 153; ((with_reducible refine (P3.out _ _ (by simp) (by repeat (first | exact Gr.refl _ | refine Gr.alloc ?_ _))).mono ?_)); rintro e w' ⟨rfl, rfl, y30⟩) | (go_at_call 153; ((with_reducible refine (P5.out _ _ (by simp) (by repeat (first | exact Gr.refl _ | refine Gr.alloc ?_ _))).mono ?_)); rintro e w' ⟨rfl, rfl, y50, y51, y52⟩))
        go_ret
        exact ⟨rfl, G0.out.trans (by repeat (first | exact Gr.refl _ | refine Gr.alloc ?_ _))⟩
  · have P1 : Hid (∀ W nb, nb = W.heap.size → Gr W0 W → Calls Tryz.prog 153 #[.slice (some ⟨nb, 0, none⟩) 1 1, .pointer (some ⟨w.heap.size, 0, none⟩)] (W.alloc (.cells #[.int .i64 1] 3)) fun e w' => e = .returned (.bool false) ∧ W.alloc (.cells #[.int .i64 1] 3) = w' ∧ w'.cell? ⟨w.heap.size, 7, none⟩ = some (.bool border) ∧ w'.cell? ⟨w.heap.size, 8, none⟩ = some (.bool boundary) ∧ w'.cell? ⟨w.heap.size, 9, none⟩ = some (.slice la ln lc)) := Lib.hid (fun W nb hnb g => by have h := O1.out 1 W nb hnb g; rw [show decide ((3 : Int) ∈ [(1 : Int)]) = false from by decide] at h; have hb := ((alloc_get W (.cells #[.int .i64 1] 3) _ (Nat.lt_of_lt_of_le (blk_lt BX.out) g.b.size)).trans ((g.b.block _ (blk_lt BX.out)).trans BX.out)); exact h.mono fun e w' hh => ⟨hh.1, hh.2, by rw [← hh.2]; exact ⟨blk_cell hb rfl, blk_cell hb rfl, blk_cell hb rfl⟩⟩)
    have P2 : Hid (∀ W nb, nb = W.heap.size → Gr W0 W → Calls Tryz.prog 153 #[.slice (some ⟨nb, 0, none⟩) 1 1, .pointer (some ⟨w.heap.size, 0, none⟩)] (W.alloc (.cells #[.int .i64 2] 3)) fun e w' => e = .returned (.bool false) ∧ W.alloc (.cells #[.int .i64 2] 3) = w' ∧ w'.cell? ⟨w.heap.size, 10, none⟩ = some (.slice aa an ac)) := Lib.hid (fun W nb hnb g => by have h := O1.out 2 W nb hnb g; rw [show decide ((3 : Int) ∈ [(2 : Int)]) = false from by decide] at h; have hb := ((alloc_get W (.cells #[.int .i64 2] 3) _ (Nat.lt_of_lt_of_le (blk_lt BX.out) g.b.size)).trans ((g.b.block _ (blk_lt BX.out)).trans BX.out)); exact h.mono fun e w' hh => ⟨hh.1, hh.2, by rw [← hh.2]; exact blk_cell hb rfl⟩)
    have P5 : Hid (∀ W nb, nb = W.heap.size → Gr W0 W → Calls Tryz.prog 153 #[.slice (some ⟨nb, 0, none⟩) 1 1, .pointer (some ⟨w.heap.size, 0, none⟩)] (W.alloc (.cells #[.int .i64 5] 3)) fun e w' => e = .returned (.bool false) ∧ W.alloc (.cells #[.int .i64 5] 3) = w' ∧ w'.cell? ⟨w.heap.size, 12, none⟩ = some (.bool second) ∧ w'.cell? ⟨w.heap.size, 13, none⟩ = some (.int .u32 fwd) ∧ w'.cell? ⟨w.heap.size, 14, none⟩ = some (.int .i64 tag)) := Lib.hid (fun W nb hnb g => by have h := O1.out 5 W nb hnb g; rw [show decide ((3 : Int) ∈ [(5 : Int)]) = false from by decide] at h; have hb := ((alloc_get W (.cells #[.int .i64 5] 3) _ (Nat.lt_of_lt_of_le (blk_lt BX.out) g.b.size)).trans ((g.b.block _ (blk_lt BX.out)).trans BX.out)); exact h.mono fun e w' hh => ⟨hh.1, hh.2, by rw [← hh.2]; exact ⟨blk_cell hb rfl, blk_cell hb rfl, blk_cell hb rfl⟩⟩)
    have P3 : Hid (∀ W nb, nb = W.heap.size → Gr W0 W → Calls Tryz.prog 153 #[.slice (some ⟨nb, 0, none⟩) 3 3, .pointer (some ⟨w.heap.size, 0, none⟩)] (W.alloc (.cells #[.int .i64 3, .int .i64 4, .int .i64 5] 3)) fun e w' => e = .returned (.bool true) ∧ W.alloc (.cells #[.int .i64 3, .int .i64 4, .int .i64 5] 3) = w' ∧ w'.cell? ⟨w.heap.size, 11, none⟩ = some (.int .i64 cost)) := Lib.hid (fun W nb hnb g => by have h := O3.out W nb hnb g; rw [show decide ((3 : Int) ∈ [(3 : Int), 4, 5]) = true from by decide] at h; have hb := ((alloc_get W (.cells #[.int .i64 3, .int .i64 4, .int .i64 5] 3) _ (Nat.lt_of_lt_of_le (blk_lt BX.out) g.b.size)).trans ((g.b.block _ (blk_lt BX.out)).trans BX.out)); exact h.mono fun e w' hh => ⟨hh.1, hh.2, by rw [← hh.2]; exact blk_cell hb rfl⟩)
    clear O1 O3
    cases border with
    | true =>
      have E : Hid ((!unusedP ⟨3, id, len, router, seq, age, sum, true, boundary, la, ln, lc, aa, an, ac, cost, second, fwd, tag⟩) = true) := Lib.hid (by simp [unusedP])
      rw [E.out]
      clear E
      obtain ⟨⟨⟨x0, x1, x2, x3, x4⟩, ⟨x5, x6, x7, x8, x9⟩, ⟨x10, x11, x12, x13, x14⟩⟩, -⟩ := blk15 BX.out
      go_enter Tryz.func115, Tryz.ntmps115
      go_upto_region 2 with fail
      rw [HW0.out]
      go_wp2_with (first | (go_at_call 153; ((with_reducible refine (P1.out _ _ (by simp) (by repeat (first | exact Gr.refl _ | refine Gr.alloc ?_ _))).mono ?_)); rintro e w' ⟨rfl, rfl, y10, y11, y12⟩) | (go_at_call 153; ((with_reducible refine (P2.out _ _ (by simp) (by repeat (first | exact Gr.refl _ | refine Gr.alloc ?_ _))).mono ?_)); rintro e w' ⟨rfl, rfl, y20⟩) | (go_at_call 153; ((with_reducible refine (P3.out _ _ (by simp) (by repeat (first | exact Gr.refl _ | refine Gr.alloc ?_ _))).mono ?_)); rintro e w' ⟨rfl, rfl, y30⟩) | (go_at_call 153; ((with_reducible refine (P5.out _ _ (by simp) (by repeat (first | exact Gr.refl _ | refine Gr.alloc ?_ _))).mono ?_)); rintro e w' ⟨rfl, rfl, y50, y51, y52⟩))
      go_ret
      exact ⟨rfl, G0.out.trans (by repeat (first | exact Gr.refl _ | refine Gr.alloc ?_ _))⟩
    | false =>
    cases boundary with
    | true =>
      have E : Hid ((!unusedP ⟨3, id, len, router, seq, age, sum, false, true, la, ln, lc, aa, an, ac, cost, second, fwd, tag⟩) = true) := Lib.hid (by simp [unusedP])
      rw [E.out]
      clear E
      obtain ⟨⟨⟨x0, x1, x2, x3, x4⟩, ⟨x5, x6, x7, x8, x9⟩, ⟨x10, x11, x12, x13, x14⟩⟩, -⟩ := blk15 BX.out
      go_enter Tryz.func115, Tryz.ntmps115
      go_upto_region 2 with fail
      rw [HW0.out]
      go_wp2_with (first | (go_at_call 153; ((with_reducible refine (P1.out _ _ (by simp) (by repeat (first | exact Gr.refl _ | refine Gr.alloc ?_ _))).mono ?_)); rintro e w' ⟨rfl, rfl, y10, y11, y12⟩) | (go_at_call 153; ((with_reducible refine (P2.out _ _ (by simp) (by repeat (first | exact Gr.refl _ | refine Gr.alloc ?_ _))).mono ?_)); rintro e w' ⟨rfl, rfl, y20⟩) | (go_at_call 153; ((with_reducible refine (P3.out _ _ (by simp) (by repeat (first | exact Gr.refl _ | refine Gr.alloc ?_ _))).mono ?_)); rintro e w' ⟨rfl, rfl, y30⟩) | (go_at_call 153; ((with_reducible refine (P5.out _ _ (by simp) (by repeat (first | exact Gr.refl _ | refine Gr.alloc ?_ _))).mono ?_)); rintro e w' ⟨rfl, rfl, y50, y51, y52⟩))
      go_ret
      exact ⟨rfl, G0.out.trans (by repeat (first | exact Gr.refl _ | refine Gr.alloc ?_ _))⟩
    | false =>
    by_cases hln : 0 < ln
    · have dln : decide ((ln : Int) > 0) = true := by simpa using hln
      have E : Hid ((!unusedP ⟨3, id, len, router, seq, age, sum, false, false, la, ln, lc, aa, an, ac, cost, second, fwd, tag⟩) = true) := Lib.hid (by simp [unusedP, hln])
      rw [E.out]
      clear E
      obtain ⟨⟨⟨x0, x1, x2, x3, x4⟩, ⟨x5, x6, x7, x8, x9⟩, ⟨x10, x11, x12, x13, x14⟩⟩, -⟩ := blk15 BX.out
      go_enter Tryz.func115, Tryz.ntmps115
      go_upto_region 2 with fail
      rw [HW0.out]
      go_wp2_with (first | (go_at_call 153; ((with_reducible refine (P1.out _ _ (by simp) (by repeat (first | exact Gr.refl _ | refine Gr.alloc ?_ _))).mono ?_)); rintro e w' ⟨rfl, rfl, y10, y11, y12⟩) | (go_at_call 153; ((with_reducible refine (P2.out _ _ (by simp) (by repeat (first | exact Gr.refl _ | refine Gr.alloc ?_ _))).mono ?_)); rintro e w' ⟨rfl, rfl, y20⟩) | (go_at_call 153; ((with_reducible refine (P3.out _ _ (by simp) (by repeat (first | exact Gr.refl _ | refine Gr.alloc ?_ _))).mono ?_)); rintro e w' ⟨rfl, rfl, y30⟩) | (go_at_call 153; ((with_reducible refine (P5.out _ _ (by simp) (by repeat (first | exact Gr.refl _ | refine Gr.alloc ?_ _))).mono ?_)); rintro e w' ⟨rfl, rfl, y50, y51, y52⟩))
      go_ret
      exact ⟨rfl, G0.out.trans (by repeat (first | exact Gr.refl _ | refine Gr.alloc ?_ _))⟩
    · obtain rfl : ln = 0 := by omega
      by_cases han : 0 < an
      · have dan : decide ((an : Int) > 0) = true := by simpa using han
        have E : Hid ((!unusedP ⟨3, id, len, router, seq, age, sum, false, false, la, 0, lc, aa, an, ac, cost, second, fwd, tag⟩) = true) := Lib.hid (by simp [unusedP, han])
        rw [E.out]
        clear E
        obtain ⟨⟨⟨x0, x1, x2, x3, x4⟩, ⟨x5, x6, x7, x8, x9⟩, ⟨x10, x11, x12, x13, x14⟩⟩, -⟩ := blk15 BX.out
        go_enter Tryz.func115, Tryz.ntmps115
        go_upto_region 2 with fail
        rw [HW0.out]
        go_wp2_with (first | (go_at_call 153; ((with_reducible refine (P1.out _ _ (by simp) (by repeat (first | exact Gr.refl _ | refine Gr.alloc ?_ _))).mono ?_)); rintro e w' ⟨rfl, rfl, y10, y11, y12⟩) | (go_at_call 153; ((with_reducible refine (P2.out _ _ (by simp) (by repeat (first | exact Gr.refl _ | refine Gr.alloc ?_ _))).mono ?_)); rintro e w' ⟨rfl, rfl, y20⟩) | (go_at_call 153; ((with_reducible refine (P3.out _ _ (by simp) (by repeat (first | exact Gr.refl _ | refine Gr.alloc ?_ _))).mono ?_)); rintro e w' ⟨rfl, rfl, y30⟩) | (go_at_call 153; ((with_reducible refine (P5.out _ _ (by simp) (by repeat (first | exact Gr.refl _ | refine Gr.alloc ?_ _))).mono ?_)); rintro e w' ⟨rfl, rfl, y50, y51, y52⟩))
        go_ret
        exact ⟨rfl, G0.out.trans (by repeat (first | exact Gr.refl _ | refine Gr.alloc ?_ _))⟩
      · obtain rfl : an = 0 := by omega
        cases second with
        | true =>
          have E : Hid ((!unusedP ⟨3, id, len, router, seq, age, sum, false, false, la, 0, lc, aa, 0, ac, cost, true, fwd, tag⟩) = true) := Lib.hid (by simp [unusedP])
          rw [E.out]
          clear E
          obtain ⟨⟨⟨x0, x1, x2, x3, x4⟩, ⟨x5, x6, x7, x8, x9⟩, ⟨x10, x11, x12, x13, x14⟩⟩, -⟩ := blk15 BX.out
          go_enter Tryz.func115, Tryz.ntmps115
          go_upto_region 2 with fail
          rw [HW0.out]
          go_wp2_with (first | (go_at_call 153; ((with_reducible refine (P1.out _ _ (by simp) (by repeat (first | exact Gr.refl _ | refine Gr.alloc ?_ _))).mono ?_)); rintro e w' ⟨rfl, rfl, y10, y11, y12⟩) | (go_at_call 153; ((with_reducible refine (P2.out _ _ (by simp) (by repeat (first | exact Gr.refl _ | refine Gr.alloc ?_ _))).mono ?_)); rintro e w' ⟨rfl, rfl, y20⟩) | (go_at_call 153; ((with_reducible refine (P3.out _ _ (by simp) (by repeat (first | exact Gr.refl _ | refine Gr.alloc ?_ _))).mono ?_)); rintro e w' ⟨rfl, rfl, y30⟩) | (go_at_call 153; ((with_reducible refine (P5.out _ _ (by simp) (by repeat (first | exact Gr.refl _ | refine Gr.alloc ?_ _))).mono ?_)); rintro e w' ⟨rfl, rfl, y50, y51, y52⟩))
          go_ret
          exact ⟨rfl, G0.out.trans (by repeat (first | exact Gr.refl _ | refine Gr.alloc ?_ _))⟩
        | false =>
        by_cases hfwd : fwd = 0
        · subst hfwd
          by_cases htag : tag = 0
          · subst htag
            have E : Hid ((!unusedP ⟨3, id, len, router, seq, age, sum, false, false, la, 0, lc, aa, 0, ac, cost, false, 0, 0⟩) = false) := Lib.hid (by simp [unusedP])
            rw [E.out]
            clear E
            obtain ⟨⟨⟨x0, x1, x2, x3, x4⟩, ⟨x5, x6, x7, x8, x9⟩, ⟨x10, x11, x12, x13, x14⟩⟩, -⟩ := blk15 BX.out
            go_enter Tryz.func115, Tryz.ntmps115
            go_upto_region 2 with fail
            rw [HW0.out]
            go_wp2_with (first | (go_at_call 153; ((with_reducible refine (P1.out _ _ (by simp) (by repeat (first | exact Gr.refl _ | refine Gr.alloc ?_ _))).mono ?_)); rintro e w' ⟨rfl, rfl, y10, y11, y12⟩) | (go_at_call 153; ((with_reducible refine (P2.out _ _ (by simp) (by repeat (first | exact Gr.refl _ | refine Gr.alloc ?_ _))).mono ?_)); rintro e w' ⟨rfl, rfl, y20⟩) | (go_at_call 153; ((with_reducible refine (P3.out _ _ (by simp) (by repeat (first | exact Gr.refl _ | refine Gr.alloc ?_ _))).mono ?_)); rintro e w' ⟨rfl, rfl, y30⟩) | (go_at_call 153; ((with_reducible refine (P5.out _ _ (by simp) (by repeat (first | exact Gr.refl _ | refine Gr.alloc ?_ _))).mono ?_)); rintro e w' ⟨rfl, rfl, y50, y51, y52⟩))
            go_ret
            exact ⟨rfl, G0.out.trans (by repeat (first | exact Gr.refl _ | refine Gr.alloc ?_ _))⟩
          · have dtag : (tag == 0) = false := by simpa using htag
            have etag : (tag != 0) = true := by simpa using htag
            have E : Hid ((!unusedP ⟨3, id, len, router, seq, age, sum, false, false, la, 0, lc, aa, 0, ac, cost, false, 0, tag⟩) = true) := Lib.hid (by simp [unusedP, htag])
            rw [E.out]
            clear E
            obtain ⟨⟨⟨x0, x1, x2, x3, x4⟩, ⟨x5, x6, x7, x8, x9⟩, ⟨x10, x11, x12, x13, x14⟩⟩, -⟩ := blk15 BX.out
            go_enter Tryz.func115, Tryz.ntmps115
            go_upto_region 2 with fail
            rw [HW0.out]
            go_wp2_with (first | (go_at_call 153; ((with_reducible refine (P1.out _ _ (by simp) (by repeat (first | exact Gr.refl _ | refine Gr.alloc ?_ _))).mono ?_)); rintro e w' ⟨rfl, rfl, y10, y11, y12⟩) | (go_at_call 153; ((with_reducible refine (P2.out _ _ (by simp) (by repeat (first | exact Gr.refl _ | refine Gr.alloc ?_ _))).mono ?_)); rintro e w' ⟨rfl, rfl, y20⟩) | (go_at_call 153; ((with_reducible refine (P3.out _ _ (by simp) (by repeat (first | exact Gr.refl _ | refine Gr.alloc ?_ _))).mono ?_)); rintro e w' ⟨rfl, rfl, y30⟩) | (go_at_call 153; ((with_reducible refine (P5.out _ _ (by simp) (by repeat (first | exact Gr.refl _ | refine Gr.alloc ?_ _))).mono ?_)); rintro e w' ⟨rfl, rfl, y50, y51, y52⟩))
            go_ret
            exact ⟨rfl, G0.out.trans (by repeat (first | exact Gr.refl _ | refine Gr.alloc ?_ _))⟩
        · have dfwd : (fwd == 0) = false := by simpa using hfwd
          have efwd : (fwd != 0) = true := by simpa using hfwd
          have E : Hid ((!unusedP ⟨3, id, len, router, seq, age, sum, false, false, la, 0, lc, aa, 0, ac, cost, false, fwd, tag⟩) = true) := Lib.hid (by simp [unusedP, hfwd])
          rw [E.out]
          clear E
          obtain ⟨⟨⟨x0, x1, x2, x3, x4⟩, ⟨x5, x6, x7, x8, x9⟩, ⟨x10, x11, x12, x13, x14⟩⟩, -⟩ := blk15 BX.out
          go_enter Tryz.func115, Tryz.ntmps115
          go_upto_region 2 with fail
          rw [HW0.out]
          go_wp2_with (first | (go_at_call 153; ((with_reducible refine (P1.out _ _ (by simp) (by repeat (first | exact Gr.refl _ | refine Gr.alloc ?_ _))).mono ?_)); rintro e w' ⟨rfl, rfl, y10, y11, y12⟩) | (go_at_call 153; ((with_reducible refine (P2.out _ _ (by simp) (by repeat (first | exact Gr.refl _ | refine Gr.alloc ?_ _))).mono ?_)); rintro e w' ⟨rfl, rfl, y20⟩) | (go_at_call 153; ((with_reducible refine (P3.out _ _ (by simp) (by repeat (first | exact Gr.refl _ | refine Gr.alloc ?_ _))).mono ?_)); rintro e w' ⟨rfl, rfl, y30⟩) | (go_at_call 153; ((with_reducible refine (P5.out _ _ (by simp) (by repeat (first | exact Gr.refl _ | refine Gr.alloc ?_ _))).mono ?_)); rintro e w' ⟨rfl, rfl, y50, y51, y52⟩))
          go_ret
          exact ⟨rfl, G0.out.trans (by repeat (first | exact Gr.refl _ | refine Gr.alloc ?_ _))⟩
  · have P1 : Hid (∀ W nb, nb = W.heap.size → Gr W0 W → Calls Tryz.prog 153 #[.slice (some ⟨nb, 0, none⟩) 1 1, .pointer (some ⟨w.heap.size, 0, none⟩)] (W.alloc (.cells #[.int .i64 1] 3)) fun e w' => e = .returned (.bool false) ∧ W.alloc (.cells #[.int .i64 1] 3) = w' ∧ w'.cell? ⟨w.heap.size, 7, none⟩ = some (.bool border) ∧ w'.cell? ⟨w.heap.size, 8, none⟩ = some (.bool boundary) ∧ w'.cell? ⟨w.heap.size, 9, none⟩ = some (.slice la ln lc)) := Lib.hid (fun W nb hnb g => by have h := O1.out 1 W nb hnb g; rw [show decide ((4 : Int) ∈ [(1 : Int)]) = false from by decide] at h; have hb := ((alloc_get W (.cells #[.int .i64 1] 3) _ (Nat.lt_of_lt_of_le (blk_lt BX.out) g.b.size)).trans ((g.b.block _ (blk_lt BX.out)).trans BX.out)); exact h.mono fun e w' hh => ⟨hh.1, hh.2, by rw [← hh.2]; exact ⟨blk_cell hb rfl, blk_cell hb rfl, blk_cell hb rfl⟩⟩)
    have P2 : Hid (∀ W nb, nb = W.heap.size → Gr W0 W → Calls Tryz.prog 153 #[.slice (some ⟨nb, 0, none⟩) 1 1, .pointer (some ⟨w.heap.size, 0, none⟩)] (W.alloc (.cells #[.int .i64 2] 3)) fun e w' => e = .returned (.bool false) ∧ W.alloc (.cells #[.int .i64 2] 3) = w' ∧ w'.cell? ⟨w.heap.size, 10, none⟩ = some (.slice aa an ac)) := Lib.hid (fun W nb hnb g => by have h := O1.out 2 W nb hnb g; rw [show decide ((4 : Int) ∈ [(2 : Int)]) = false from by decide] at h; have hb := ((alloc_get W (.cells #[.int .i64 2] 3) _ (Nat.lt_of_lt_of_le (blk_lt BX.out) g.b.size)).trans ((g.b.block _ (blk_lt BX.out)).trans BX.out)); exact h.mono fun e w' hh => ⟨hh.1, hh.2, by rw [← hh.2]; exact blk_cell hb rfl⟩)
    have P5 : Hid (∀ W nb, nb = W.heap.size → Gr W0 W → Calls Tryz.prog 153 #[.slice (some ⟨nb, 0, none⟩) 1 1, .pointer (some ⟨w.heap.size, 0, none⟩)] (W.alloc (.cells #[.int .i64 5] 3)) fun e w' => e = .returned (.bool false) ∧ W.alloc (.cells #[.int .i64 5] 3) = w' ∧ w'.cell? ⟨w.heap.size, 12, none⟩ = some (.bool second) ∧ w'.cell? ⟨w.heap.size, 13, none⟩ = some (.int .u32 fwd) ∧ w'.cell? ⟨w.heap.size, 14, none⟩ = some (.int .i64 tag)) := Lib.hid (fun W nb hnb g => by have h := O1.out 5 W nb hnb g; rw [show decide ((4 : Int) ∈ [(5 : Int)]) = false from by decide] at h; have hb := ((alloc_get W (.cells #[.int .i64 5] 3) _ (Nat.lt_of_lt_of_le (blk_lt BX.out) g.b.size)).trans ((g.b.block _ (blk_lt BX.out)).trans BX.out)); exact h.mono fun e w' hh => ⟨hh.1, hh.2, by rw [← hh.2]; exact ⟨blk_cell hb rfl, blk_cell hb rfl, blk_cell hb rfl⟩⟩)
    have P3 : Hid (∀ W nb, nb = W.heap.size → Gr W0 W → Calls Tryz.prog 153 #[.slice (some ⟨nb, 0, none⟩) 3 3, .pointer (some ⟨w.heap.size, 0, none⟩)] (W.alloc (.cells #[.int .i64 3, .int .i64 4, .int .i64 5] 3)) fun e w' => e = .returned (.bool true) ∧ W.alloc (.cells #[.int .i64 3, .int .i64 4, .int .i64 5] 3) = w' ∧ w'.cell? ⟨w.heap.size, 11, none⟩ = some (.int .i64 cost)) := Lib.hid (fun W nb hnb g => by have h := O3.out W nb hnb g; rw [show decide ((4 : Int) ∈ [(3 : Int), 4, 5]) = true from by decide] at h; have hb := ((alloc_get W (.cells #[.int .i64 3, .int .i64 4, .int .i64 5] 3) _ (Nat.lt_of_lt_of_le (blk_lt BX.out) g.b.size)).trans ((g.b.block _ (blk_lt BX.out)).trans BX.out)); exact h.mono fun e w' hh => ⟨hh.1, hh.2, by rw [← hh.2]; exact blk_cell hb rfl⟩)
    clear O1 O3
    cases border with
    | true =>
      have E : Hid ((!unusedP ⟨4, id, len, router, seq, age, sum, true, boundary, la, ln, lc, aa, an, ac, cost, second, fwd, tag⟩) = true) := Lib.hid (by simp [unusedP])
      rw [E.out]
      clear E
      obtain ⟨⟨⟨x0, x1, x2, x3, x4⟩, ⟨x5, x6, x7, x8, x9⟩, ⟨x10, x11, x12, x13, x14⟩⟩, -⟩ := blk15 BX.out
      go_enter Tryz.func115, Tryz.ntmps115
      go_upto_region 2 with fail
      rw [HW0.out]
      go_wp2_with (first | (go_at_call 153; ((with_reducible refine (P1.out _ _ (by simp) (by repeat (first | exact Gr.refl _ | refine Gr.alloc ?_ _))).mono ?_)); rintro e w' ⟨rfl, rfl, y10, y11, y12⟩) | (go_at_call 153; ((with_reducible refine (P2.out _ _ (by simp) (by repeat (first | exact Gr.refl _ | refine Gr.alloc ?_ _))).mono ?_)); rintro e w' ⟨rfl, rfl, y20⟩) | (go_at_call 153; ((with_reducible refine (P3.out _ _ (by simp) (by repeat (first | exact Gr.refl _ | refine Gr.alloc ?_ _))).mono ?_)); rintro e w' ⟨rfl, rfl, y30⟩) | (go_at_call 153; ((with_reducible refine (P5.out _ _ (by simp) (by repeat (first | exact Gr.refl _ | refine Gr.alloc ?_ _))).mono ?_)); rintro e w' ⟨rfl, rfl, y50, y51, y52⟩))
      go_ret
      exact ⟨rfl, G0.out.trans (by repeat (first | exact Gr.refl _ | refine Gr.alloc ?_ _))⟩
    | false =>
    cases boundary with
    | true =>
      have E : Hid ((!unusedP ⟨4, id, len, router, seq, age, sum, false, true, la, ln, lc, aa, an, ac, cost, second, fwd, tag⟩) = true) := Lib.hid (by simp [unusedP])
      rw [E.out]
      clear E
      obtain ⟨⟨⟨x0, x1, x2, x3, x4⟩, ⟨x5, x6, x7, x8, x9⟩, ⟨x10, x11, x12, x13, x14⟩⟩, -⟩ := blk15 BX.out
      go_enter Tryz.func115, Tryz.ntmps115
      go_upto_region 2 with fail
      rw [HW0.out]
      go_wp2_with (first | (go_at_call 153; ((with_reducible refine (P1.out _ _ (by simp) (by repeat (first | exact Gr.refl _ | refine Gr.alloc ?_ _))).mono ?_)); rintro e w' ⟨rfl, rfl, y10, y11, y12⟩) | (go_at_call 153; ((with_reducible refine (P2.out _ _ (by simp) (by repeat (first | exact Gr.refl _ | refine Gr.alloc ?_ _))).mono ?_)); rintro e w' ⟨rfl, rfl, y20⟩) | (go_at_call 153; ((with_reducible refine (P3.out _ _ (by simp) (by repeat (first | exact Gr.refl _ | refine Gr.alloc ?_ _))).mono ?_)); rintro e w' ⟨rfl, rfl, y30⟩) | (go_at_call 153; ((with_reducible refine (P5.out _ _ (by simp) (by repeat (first | exact Gr.refl _ | refine Gr.alloc ?_ _))).mono ?_)); rintro e w' ⟨rfl, rfl, y50, y51, y52⟩))
      go_ret
      exact ⟨rfl, G0.out.trans (by repeat (first | exact Gr.refl _ | refine Gr.alloc ?_ _))⟩
    | false =>
    by_cases hln : 0 < ln
    · have dln : decide ((ln : Int) > 0) = true := by simpa using hln
      have E : Hid ((!unusedP ⟨4, id, len, router, seq, age, sum, false, false, la, ln, lc, aa, an, ac, cost, second, fwd, tag⟩) = true) := Lib.hid (by simp [unusedP, hln])
      rw [E.out]
      clear E
      obtain ⟨⟨⟨x0, x1, x2, x3, x4⟩, ⟨x5, x6, x7, x8, x9⟩, ⟨x10, x11, x12, x13, x14⟩⟩, -⟩ := blk15 BX.out
      go_enter Tryz.func115, Tryz.ntmps115
      go_upto_region 2 with fail
      rw [HW0.out]
      go_wp2_with (first | (go_at_call 153; ((with_reducible refine (P1.out _ _ (by simp) (by repeat (first | exact Gr.refl _ | refine Gr.alloc ?_ _))).mono ?_)); rintro e w' ⟨rfl, rfl, y10, y11, y12⟩) | (go_at_call 153; ((with_reducible refine (P2.out _ _ (by simp) (by repeat (first | exact Gr.refl _ | refine Gr.alloc ?_ _))).mono ?_)); rintro e w' ⟨rfl, rfl, y20⟩) | (go_at_call 153; ((with_reducible refine (P3.out _ _ (by simp) (by repeat (first | exact Gr.refl _ | refine Gr.alloc ?_ _))).mono ?_)); rintro e w' ⟨rfl, rfl, y30⟩) | (go_at_call 153; ((with_reducible refine (P5.out _ _ (by simp) (by repeat (first | exact Gr.refl _ | refine Gr.alloc ?_ _))).mono ?_)); rintro e w' ⟨rfl, rfl, y50, y51, y52⟩))
      go_ret
      exact ⟨rfl, G0.out.trans (by repeat (first | exact Gr.refl _ | refine Gr.alloc ?_ _))⟩
    · obtain rfl : ln = 0 := by omega
      by_cases han : 0 < an
      · have dan : decide ((an : Int) > 0) = true := by simpa using han
        have E : Hid ((!unusedP ⟨4, id, len, router, seq, age, sum, false, false, la, 0, lc, aa, an, ac, cost, second, fwd, tag⟩) = true) := Lib.hid (by simp [unusedP, han])
        rw [E.out]
        clear E
        obtain ⟨⟨⟨x0, x1, x2, x3, x4⟩, ⟨x5, x6, x7, x8, x9⟩, ⟨x10, x11, x12, x13, x14⟩⟩, -⟩ := blk15 BX.out
        go_enter Tryz.func115, Tryz.ntmps115
        go_upto_region 2 with fail
        rw [HW0.out]
        go_wp2_with (first | (go_at_call 153; ((with_reducible refine (P1.out _ _ (by simp) (by repeat (first | exact Gr.refl _ | refine Gr.alloc ?_ _))).mono ?_)); rintro e w' ⟨rfl, rfl, y10, y11, y12⟩) | (go_at_call 153; ((with_reducible refine (P2.out _ _ (by simp) (by repeat (first | exact Gr.refl _ | refine Gr.alloc ?_ _))).mono ?_)); rintro e w' ⟨rfl, rfl, y20⟩) | (go_at_call 153; ((with_reducible refine (P3.out _ _ (by simp) (by repeat (first | exact Gr.refl _ | refine Gr.alloc ?_ _))).mono ?_)); rintro e w' ⟨rfl, rfl, y30⟩) | (go_at_call 153; ((with_reducible refine (P5.out _ _ (by simp) (by repeat (first | exact Gr.refl _ | refine Gr.alloc ?_ _))).mono ?_)); rintro e w' ⟨rfl, rfl, y50, y51, y52⟩))
        go_ret
        exact ⟨rfl, G0.out.trans (by repeat (first | exact Gr.refl _ | refine Gr.alloc ?_ _))⟩
      · obtain rfl : an = 0 := by omega
        cases second with
        | true =>
          have E : Hid ((!unusedP ⟨4, id, len, router, seq, age, sum, false, false, la, 0, lc, aa, 0, ac, cost, true, fwd, tag⟩) = true) := Lib.hid (by simp [unusedP])
          rw [E.out]
          clear E
          obtain ⟨⟨⟨x0, x1, x2, x3, x4⟩, ⟨x5, x6, x7, x8, x9⟩, ⟨x10, x11, x12, x13, x14⟩⟩, -⟩ := blk15 BX.out
          go_enter Tryz.func115, Tryz.ntmps115
          go_upto_region 2 with fail
          rw [HW0.out]
          go_wp2_with (first | (go_at_call 153; ((with_reducible refine (P1.out _ _ (by simp) (by repeat (first | exact Gr.refl _ | refine Gr.alloc ?_ _))).mono ?_)); rintro e w' ⟨rfl, rfl, y10, y11, y12⟩) | (go_at_call 153; ((with_reducible refine (P2.out _ _ (by simp) (by repeat (first | exact Gr.refl _ | refine Gr.alloc ?_ _))).mono ?_)); rintro e w' ⟨rfl, rfl, y20⟩) | (go_at_call 153; ((with_reducible refine (P3.out _ _ (by simp) (by repeat (first | exact Gr.refl _ | refine Gr.alloc ?_ _))).mono ?_)); rintro e w' ⟨rfl, rfl, y30⟩) | (go_at_call 153; ((with_reducible refine (P5.out _ _ (by simp) (by repeat (first | exact Gr.refl _ | refine Gr.alloc ?_ _))).mono ?_)); rintro e w' ⟨rfl, rfl, y50, y51, y52⟩))
          go_ret
          exact ⟨rfl, G0.out.trans (by repeat (first | exact Gr.refl _ | refine Gr.alloc ?_ _))⟩
        | false =>
        by_cases hfwd : fwd = 0
        · subst hfwd
          by_cases htag : tag = 0
          · subst htag
            have E : Hid ((!unusedP ⟨4, id, len, router, seq, age, sum, false, false, la, 0, lc, aa, 0, ac, cost, false, 0, 0⟩) = false) := Lib.hid (by simp [unusedP])
            rw [E.out]
            clear E
            obtain ⟨⟨⟨x0, x1, x2, x3, x4⟩, ⟨x5, x6, x7, x8, x9⟩, ⟨x10, x11, x12, x13, x14⟩⟩, -⟩ := blk15 BX.out
            go_enter Tryz.func115, Tryz.ntmps115
            go_upto_region 2 with fail
            rw [HW0.out]
            go_wp2_with (first | (go_at_call 153; ((with_reducible refine (P1.out _ _ (by simp) (by repeat (first | exact Gr.refl _ | refine Gr.alloc ?_ _))).mono ?_)); rintro e w' ⟨rfl, rfl, y10, y11, y12⟩) | (go_at_call 153; ((with_reducible refine (P2.out _ _ (by simp) (by repeat (first | exact Gr.refl _ | refine Gr.alloc ?_ _))).mono ?_)); rintro e w' ⟨rfl, rfl, y20⟩) | (go_at_call 153; ((with_reducible refine (P3.out _ _ (by simp) (by repeat (first | exact Gr.refl _ | refine Gr.alloc ?_ _))).mono ?_)); rintro e w' ⟨rfl, rfl, y30⟩) | (go_at_call 153; ((with_reducible refine (P5.out _ _ (by simp) (by repeat (first | exact Gr.refl _ | refine Gr.alloc ?_ _))).mono ?_)); rintro e w' ⟨rfl, rfl, y50, y51, y52⟩))
            go_ret
            exact ⟨rfl, G0.out.trans (by repeat (first | exact Gr.refl _ | refine Gr.alloc ?_ _))⟩
          · have dtag : (tag == 0) = false := by simpa using htag
            have etag : (tag != 0) = true := by simpa using htag
            have E : Hid ((!unusedP ⟨4, id, len, router, seq, age, sum, false, false, la, 0, lc, aa, 0, ac, cost, false, 0, tag⟩) = true) := Lib.hid (by simp [unusedP, htag])
            rw [E.out]
            clear E
            obtain ⟨⟨⟨x0, x1, x2, x3, x4⟩, ⟨x5, x6, x7, x8, x9⟩, ⟨x10, x11, x12, x13, x14⟩⟩, -⟩ := blk15 BX.out
            go_enter Tryz.func115, Tryz.ntmps115
            go_upto_region 2 with fail
            rw [HW0.out]
            go_wp2_with (first | (go_at_call 153; ((with_reducible refine (P1.out _ _ (by simp) (by repeat (first | exact Gr.refl _ | refine Gr.alloc ?_ _))).mono ?_)); rintro e w' ⟨rfl, rfl, y10, y11, y12⟩) | (go_at_call 153; ((with_reducible refine (P2.out _ _ (by simp) (by repeat (first | exact Gr.refl _ | refine Gr.alloc ?_ _))).mono ?_)); rintro e w' ⟨rfl, rfl, y20⟩) | (go_at_call 153; ((with_reducible refine (P3.out _ _ (by simp) (by repeat (first | exact Gr.refl _ | refine Gr.alloc ?_ _))).mono ?_)); rintro e w' ⟨rfl, rfl, y30⟩) | (go_at_call 153; ((with_reducible refine (P5.out _ _ (by simp) (by repeat (first | exact Gr.refl _ | refine Gr.alloc ?_ _))).mono ?_)); rintro e w' ⟨rfl, rfl, y50, y51, y52⟩))
            go_ret
            exact ⟨rfl, G0.out.trans (by repeat (first | exact Gr.refl _ | refine Gr.alloc ?_ _))⟩
        · have dfwd : (fwd == 0) = false := by simpa using hfwd
          have efwd : (fwd != 0) = true := by simpa using hfwd
          have E : Hid ((!unusedP ⟨4, id, len, router, seq, age, sum, false, false, la, 0, lc, aa, 0, ac, cost, false, fwd, tag⟩) = true) := Lib.hid (by simp [unusedP, hfwd])
          rw [E.out]
          clear E
          obtain ⟨⟨⟨x0, x1, x2, x3, x4⟩, ⟨x5, x6, x7, x8, x9⟩, ⟨x10, x11, x12, x13, x14⟩⟩, -⟩ := blk15 BX.out
          go_enter Tryz.func115, Tryz.ntmps115
          go_upto_region 2 with fail
          rw [HW0.out]
          go_wp2_with (first | (go_at_call 153; ((with_reducible refine (P1.out _ _ (by simp) (by repeat (first | exact Gr.refl _ | refine Gr.alloc ?_ _))).mono ?_)); rintro e w' ⟨rfl, rfl, y10, y11, y12⟩) | (go_at_call 153; ((with_reducible refine (P2.out _ _ (by simp) (by repeat (first | exact Gr.refl _ | refine Gr.alloc ?_ _))).mono ?_)); rintro e w' ⟨rfl, rfl, y20⟩) | (go_at_call 153; ((with_reducible refine (P3.out _ _ (by simp) (by repeat (first | exact Gr.refl _ | refine Gr.alloc ?_ _))).mono ?_)); rintro e w' ⟨rfl, rfl, y30⟩) | (go_at_call 153; ((with_reducible refine (P5.out _ _ (by simp) (by repeat (first | exact Gr.refl _ | refine Gr.alloc ?_ _))).mono ?_)); rintro e w' ⟨rfl, rfl, y50, y51, y52⟩))
          go_ret
          exact ⟨rfl, G0.out.trans (by repeat (first | exact Gr.refl _ | refine Gr.alloc ?_ _))⟩
  · have P1 : Hid (∀ W nb, nb = W.heap.size → Gr W0 W → Calls Tryz.prog 153 #[.slice (some ⟨nb, 0, none⟩) 1 1, .pointer (some ⟨w.heap.size, 0, none⟩)] (W.alloc (.cells #[.int .i64 1] 3)) fun e w' => e = .returned (.bool false) ∧ W.alloc (.cells #[.int .i64 1] 3) = w' ∧ w'.cell? ⟨w.heap.size, 7, none⟩ = some (.bool border) ∧ w'.cell? ⟨w.heap.size, 8, none⟩ = some (.bool boundary) ∧ w'.cell? ⟨w.heap.size, 9, none⟩ = some (.slice la ln lc)) := Lib.hid (fun W nb hnb g => by have h := O1.out 1 W nb hnb g; rw [show decide ((5 : Int) ∈ [(1 : Int)]) = false from by decide] at h; have hb := ((alloc_get W (.cells #[.int .i64 1] 3) _ (Nat.lt_of_lt_of_le (blk_lt BX.out) g.b.size)).trans ((g.b.block _ (blk_lt BX.out)).trans BX.out)); exact h.mono fun e w' hh => ⟨hh.1, hh.2, by rw [← hh.2]; exact ⟨blk_cell hb rfl, blk_cell hb rfl, blk_cell hb rfl⟩⟩)
    have P2 : Hid (∀ W nb, nb = W.heap.size → Gr W0 W → Calls Tryz.prog 153 #[.slice (some ⟨nb, 0, none⟩) 1 1, .pointer (some ⟨w.heap.size, 0, none⟩)] (W.alloc (.cells #[.int .i64 2] 3)) fun e w' => e = .returned (.bool false) ∧ W.alloc (.cells #[.int .i64 2] 3) = w' ∧ w'.cell? ⟨w.heap.size, 10, none⟩ = some (.slice aa an ac)) := Lib.hid (fun W nb hnb g => by have h := O1.out 2 W nb hnb g; rw [show decide ((5 : Int) ∈ [(2 : Int)]) = false from by decide] at h; have hb := ((alloc_get W (.cells #[.int .i64 2] 3) _ (Nat.lt_of_lt_of_le (blk_lt BX.out) g.b.size)).trans ((g.b.block _ (blk_lt BX.out)).trans BX.out)); exact h.mono fun e w' hh => ⟨hh.1, hh.2, by rw [← hh.2]; exact blk_cell hb rfl⟩)
    have P5 : Hid (∀ W nb, nb = W.heap.size → Gr W0 W → Calls Tryz.prog 153 #[.slice (some ⟨nb, 0, none⟩) 1 1, .pointer (some ⟨w.heap.size, 0, none⟩)] (W.alloc (.cells #[.int .i64 5] 3)) fun e w' => e = .returned (.bool true) ∧ W.alloc (.cells #[.int .i64 5] 3) = w' ∧ w'.cell? ⟨w.heap.size, 12, none⟩ = some (.bool second) ∧ w'.cell? ⟨w.heap.size, 13, none⟩ = some (.int .u32 fwd) ∧ w'.cell? ⟨w.heap.size, 14, none⟩ = some (.int .i64 tag)) := Lib.hid (fun W nb hnb g => by have h := O1.out 5 W nb hnb g; rw [show decide ((5 : Int) ∈ [(5 : Int)]) = true from by decide] at h; have hb := ((alloc_get W (.cells #[.int .i64 5] 3) _ (Nat.lt_of_lt_of_le (blk_lt BX.out) g.b.size)).trans ((g.b.block _ (blk_lt BX.out)).trans BX.out)); exact h.mono fun e w' hh => ⟨hh.1, hh.2, by rw [← hh.2]; exact ⟨blk_cell hb rfl, blk_cell hb rfl, blk_cell hb rfl⟩⟩)
    have P3 : Hid (∀ W nb, nb = W.heap.size → Gr W0 W → Calls Tryz.prog 153 #[.slice (some ⟨nb, 0, none⟩) 3 3, .pointer (some ⟨w.heap.size, 0, none⟩)] (W.alloc (.cells #[.int .i64 3, .int .i64 4, .int .i64 5] 3)) fun e w' => e = .returned (.bool true) ∧ W.alloc (.cells #[.int .i64 3, .int .i64 4, .int .i64 5] 3) = w' ∧ w'.cell? ⟨w.heap.size, 11, none⟩ = some (.int .i64 cost)) := Lib.hid (fun W nb hnb g => by have h := O3.out W nb hnb g; rw [show decide ((5 : Int) ∈ [(3 : Int), 4, 5]) = true from by decide] at h; have hb := ((alloc_get W (.cells #[.int .i64 3, .int .i64 4, .int .i64 5] 3) _ (Nat.lt_of_lt_of_le (blk_lt BX.out) g.b.size)).trans ((g.b.block _ (blk_lt BX.out)).trans BX.out)); exact h.mono fun e w' hh => ⟨hh.1, hh.2, by rw [← hh.2]; exact blk_cell hb rfl⟩)
    clear O1 O3
    cases border with
    | true =>
      have E : Hid ((!unusedP ⟨5, id, len, router, seq, age, sum, true, boundary, la, ln, lc, aa, an, ac, cost, second, fwd, tag⟩) = true) := Lib.hid (by simp [unusedP])
      rw [E.out]
      clear E
      obtain ⟨⟨⟨x0, x1, x2, x3, x4⟩, ⟨x5, x6, x7, x8, x9⟩, ⟨x10, x11, x12, x13, x14⟩⟩, -⟩ := blk15 BX.out
      go_enter Tryz.func115, Tryz.ntmps115
      go_upto_region 2 with fail
      rw [HW0.out]
      go_wp2_with (first | (go_at_call 153; ((with_reducible refine (P1.out _ _ (by simp) (by repeat (first | exact Gr.refl _ | refine Gr.alloc ?_ _))).mono ?_)); rintro e w' ⟨rfl, rfl, y10, y11, y12⟩) | (go_at_call 153; ((with_reducible refine (P2.out _ _ (by simp) (by repeat (first | exact Gr.refl _ | refine Gr.alloc ?_ _))).mono ?_)); rintro e w' ⟨rfl, rfl, y20⟩) | (go_at_call 153; ((with_reducible refine (P3.out _ _ (by simp) (by repeat (first | exact Gr.refl _ | refine Gr.alloc ?_ _))).mono ?_)); rintro e w' ⟨rfl, rfl, y30⟩) | (go_at_call 153; ((with_reducible refine (P5.out _ _ (by simp) (by repeat (first | exact Gr.refl _ | refine Gr.alloc ?_ _))).mono ?_)); rintro e w' ⟨rfl, rfl, y50, y51, y52⟩))
      go_ret
      exact ⟨rfl, G0.out.trans (by repeat (first | exact Gr.refl _ | refine Gr.alloc ?_ _))⟩
    | false =>
    cases boundary with
    | true =>
      have E : Hid ((!unusedP ⟨5, id, len, router, seq, age, sum, false, true, la, ln, lc, aa, an, ac, cost, second, fwd, tag⟩) = true) := Lib.hid (by simp [unusedP])
      rw [E.out]
      clear E
      obtain ⟨⟨⟨x0, x1, x2, x3, x4⟩, ⟨x5, x6, x7, x8, x9⟩, ⟨x10, x11, x12, x13, x14⟩⟩, -⟩ := blk15 BX.out
      go_enter Tryz.func115, Tryz.ntmps115
      go_upto_region 2 with fail
      rw [HW0.out]
      go_wp2_with (first | (go_at_call 153; ((with_reducible refine (P1.out _ _ (by simp) (by repeat (first | exact Gr.refl _ | refine Gr.alloc ?_ _))).mono ?_)); rintro e w' ⟨rfl, rfl, y10, y11, y12⟩) | (go_at_call 153; ((with_reducible refine (P2.out _ _ (by simp) (by repeat (first | exact Gr.refl _ | refine Gr.alloc ?_ _))).mono ?_)); rintro e w' ⟨rfl, rfl, y20⟩) | (go_at_call 153; ((with_reducible refine (P3.out _ _ (by simp) (by repeat (first | exact Gr.refl _ | refine Gr.alloc ?_ _))).mono ?_)); rintro e w' ⟨rfl, rfl, y30⟩) | (go_at_call 153; ((with_reducible refine (P5.out _ _ (by simp) (by repeat (first | exact Gr.refl _ | refine Gr.alloc ?_ _))).mono ?_)); rintro e w' ⟨rfl, rfl, y50, y51, y52⟩))
      go_ret
      exact ⟨rfl, G0.out.trans (by repeat (first | exact Gr.refl _ | refine Gr.alloc ?_ _))⟩
    | false =>
    by_cases hln : 0 < ln
    · have dln : decide ((ln : Int) > 0) = true := by simpa using hln
      have E : Hid ((!unusedP ⟨5, id, len, router, seq, age, sum, false, false, la, ln, lc, aa, an, ac, cost, second, fwd, tag⟩) = true) := Lib.hid (by simp [unusedP, hln])
      rw [E.out]
      clear E
      obtain ⟨⟨⟨x0, x1, x2, x3, x4⟩, ⟨x5, x6, x7, x8, x9⟩, ⟨x10, x11, x12, x13, x14⟩⟩, -⟩ := blk15 BX.out
      go_enter Tryz.func115, Tryz.ntmps115
      go_upto_region 2 with fail
      rw [HW0.out]
      go_wp2_with (first | (go_at_call 153; ((with_reducible refine (P1.out _ _ (by simp) (by repeat (first | exact Gr.refl _ | refine Gr.alloc ?_ _))).mono ?_)); rintro e w' ⟨rfl, rfl, y10, y11, y12⟩) | (go_at_call 153; ((with_reducible refine (P2.out _ _ (by simp) (by repeat (first | exact Gr.refl _ | refine Gr.alloc ?_ _))).mono ?_)); rintro e w' ⟨rfl, rfl, y20⟩) | (go_at_call 153; ((with_reducible refine (P3.out _ _ (by simp) (by repeat (first | exact Gr.refl _ | refine Gr.alloc ?_ _))).mono ?_)); rintro e w' ⟨rfl, rfl, y30⟩) | (go_at_call 153; ((with_reducible refine (P5.out _ _ (by simp) (by repeat (first | exact Gr.refl _ | refine Gr.alloc ?_ _))).mono ?_)); rintro e w' ⟨rfl, rfl, y50, y51, y52⟩))
      go_ret
      exact ⟨rfl, G0.out.trans (by repeat (first | exact Gr.refl _ | refine Gr.alloc ?_ _))⟩
    · obtain rfl : ln = 0 := by omega
      by_cases han : 0 < an
      · have dan : decide ((an : Int) > 0) = true := by simpa using han
        have E : Hid ((!unusedP ⟨5, id, len, router, seq, age, sum, false, false, la, 0, lc, aa, an, ac, cost, second, fwd, tag⟩) = true) := Lib.hid (by simp [unusedP, han])
        rw [E.out]
        clear E
        obtain ⟨⟨⟨x0, x1, x2, x3, x4⟩, ⟨x5, x6, x7, x8, x9⟩, ⟨x10, x11, x12, x13, x14⟩⟩, -⟩ := blk15 BX.out
        go_enter Tryz.func115, Tryz.ntmps115
        go_upto_region 2 with fail
        rw [HW0.out]
        go_wp2_with (first | (go_at_call 153; ((with_reducible refine (P1.out _ _ (by simp) (by repeat (first | exact Gr.refl _ | refine Gr.alloc ?_ _))).mono ?_)); rintro e w' ⟨rfl, rfl, y10, y11, y12⟩) | (go_at_call 153; ((with_reducible refine (P2.out _ _ (by simp) (by repeat (first | exact Gr.refl _ | refine Gr.alloc ?_ _))).mono ?_)); rintro e w' ⟨rfl, rfl, y20⟩) | (go_at_call 153; ((with_reducible refine (P3.out _ _ (by simp) (by repeat (first | exact Gr.refl _ | refine Gr.alloc ?_ _))).mono ?_)); rintro e w' ⟨rfl, rfl, y30⟩) | (go_at_call 153; ((with_reducible refine (P5.out _ _ (by simp) (by repeat (first | exact Gr.refl _ | refine Gr.alloc ?_ _))).mono ?_)); rintro e w' ⟨rfl, rfl, y50, y51, y52⟩))
        go_ret
        exact ⟨rfl, G0.out.trans (by repeat (first | exact Gr.refl _ | refine Gr.alloc ?_ _))⟩
      · obtain rfl : an = 0 := by omega
        have E : Hid ((!unusedP ⟨5, id, len, router, seq, age, sum, false, false, la, 0, lc, aa, 0, ac, cost, second, fwd, tag⟩) = false) := Lib.hid (by simp [unusedP])
        rw [E.out]
        clear E
        obtain ⟨⟨⟨x0, x1, x2, x3, x4⟩, ⟨x5, x6, x7, x8, x9⟩, ⟨x10, x11, x12, x13, x14⟩⟩, -⟩ := blk15 BX.out
        go_enter Tryz.func115, Tryz.ntmps115
        go_upto_region 2 with fail
        rw [HW0.out]
        go_wp2_with (first | (go_at_call 153; ((with_reducible refine (P1.out _ _ (by simp) (by repeat (first | exact Gr.refl _ | refine Gr.alloc ?_ _))).mono ?_)); rintro e w' ⟨rfl, rfl, y10, y11, y12⟩) | (go_at_call 153; ((with_reducible refine (P2.out _ _ (by simp) (by repeat (first | exact Gr.refl _ | refine Gr.alloc ?_ _))).mono ?_)); rintro e w' ⟨rfl, rfl, y20⟩) | (go_at_call 153; ((with_reducible refine (P3.out _ _ (by simp) (by repeat (first | exact Gr.refl _ | refine Gr.alloc ?_ _))).mono ?_)); rintro e w' ⟨rfl, rfl, y30⟩) | (go_at_call 153; ((with_reducible refine (P5.out _ _ (by simp) (by repeat (first | exact Gr.refl _ | refine Gr.alloc ?_ _))).mono ?_)); rintro e w' ⟨rfl, rfl, y50, y51, y52⟩))
        go_ret
        exact ⟨rfl, G0.out.trans (by repeat (first | exact Gr.refl _ | refine Gr.alloc ?_ _))⟩

end Go.Proofs.YtddageahmgaigaaGreat
