import Derived.Test.YtddageahmgaigaaGreatLca
namespace Go.Proofs.YtddageahmgaigaaGreat
open Go.RowKit

set_option maxHeartbeats 8000000 in
theorem checkHeader_calls (t id len r seq age sum : Int) (i0 : 0 ≤ id) (i1 : id < 4294967296) (w : World) : Calls Tryz.prog 114 #[.agg (hdE t id len r seq age sum).toArray] w (HeadPost w (headP t id len r seq age sum)) := by
  have FC : Hid (∀ W, Calls Tryz.prog 152 #[.agg #[.int .u32 id, .int .i64 len]] W fun e w' => e = .returned (.bool (fitsB id len)) ∧ Gr W w') := Lib.hid (fun W => valid_calls ⟨id, len⟩ ⟨i0, i1⟩ W)
  have HP := Lib.hid (fun W => hasPrefix_any t W)
  unfold hdE
  cases h1 : withinB t 1 5 with
  | false =>
    have E : Hid (headP t id len r seq age sum = 15) := Lib.hid (by simp [headP, h1])
    rw [E.out]
    clear E
    go_enter Tryz.func114, Tryz.ntmps114
    go_wp2_with (first | (go_at_call 151; refine (HP.out _).mono ?_; rintro e w' ⟨rfl, rfl⟩) | (go_at_call 118; refine (lwithin_calls _ _ _ _).mono ?_; rintro e w' ⟨rfl, rfl⟩) | (go_at_call 152; refine (FC.out _).mono ?_; rintro e w' ⟨rfl, GV⟩))
    all_goals
      go_ret
      exact ⟨rfl, by first | exact (Gr.refl _).alloc _ | exact ((Gr.refl _).alloc _).trans GV⟩
  | true =>
  by_cases h2 : r = 0
  · subst h2
    have E : Hid (headP t id len 0 seq age sum = 5) := Lib.hid (by simp [headP, h1])
    rw [E.out]
    clear E
    go_enter Tryz.func114, Tryz.ntmps114
    go_wp2_with (first | (go_at_call 151; refine (HP.out _).mono ?_; rintro e w' ⟨rfl, rfl⟩) | (go_at_call 118; refine (lwithin_calls _ _ _ _).mono ?_; rintro e w' ⟨rfl, rfl⟩) | (go_at_call 152; refine (FC.out _).mono ?_; rintro e w' ⟨rfl, GV⟩))
    all_goals
      go_ret
      exact ⟨rfl, by first | exact (Gr.refl _).alloc _ | exact ((Gr.refl _).alloc _).trans GV⟩
  have h2' : (r == 0) = false := by simpa using h2
  cases h3 : withinB seq 1 2147483647 with
  | false =>
    have E : Hid (headP t id len r seq age sum = 5) := Lib.hid (by simp [headP, h1, h2, h3])
    rw [E.out]
    clear E
    go_enter Tryz.func114, Tryz.ntmps114
    go_wp2_with (first | (go_at_call 151; refine (HP.out _).mono ?_; rintro e w' ⟨rfl, rfl⟩) | (go_at_call 118; refine (lwithin_calls _ _ _ _).mono ?_; rintro e w' ⟨rfl, rfl⟩) | (go_at_call 152; refine (FC.out _).mono ?_; rintro e w' ⟨rfl, GV⟩))
    all_goals
      go_ret
      exact ⟨rfl, by first | exact (Gr.refl _).alloc _ | exact ((Gr.refl _).alloc _).trans GV⟩
  | true =>
  cases h4 : withinB age 0 3600 with
  | false =>
    have E : Hid (headP t id len r seq age sum = 5) := Lib.hid (by simp [headP, h1, h2, h3, h4])
    rw [E.out]
    clear E
    go_enter Tryz.func114, Tryz.ntmps114
    go_wp2_with (first | (go_at_call 151; refine (HP.out _).mono ?_; rintro e w' ⟨rfl, rfl⟩) | (go_at_call 118; refine (lwithin_calls _ _ _ _).mono ?_; rintro e w' ⟨rfl, rfl⟩) | (go_at_call 152; refine (FC.out _).mono ?_; rintro e w' ⟨rfl, GV⟩))
    all_goals
      go_ret
      exact ⟨rfl, by first | exact (Gr.refl _).alloc _ | exact ((Gr.refl _).alloc _).trans GV⟩
  | true =>
  cases h5 : withinB sum 0 65535 with
  | false =>
    have E : Hid (headP t id len r seq age sum = 5) := Lib.hid (by simp [headP, h1, h2, h3, h4, h5])
    rw [E.out]
    clear E
    go_enter Tryz.func114, Tryz.ntmps114
    go_wp2_with (first | (go_at_call 151; refine (HP.out _).mono ?_; rintro e w' ⟨rfl, rfl⟩) | (go_at_call 118; refine (lwithin_calls _ _ _ _).mono ?_; rintro e w' ⟨rfl, rfl⟩) | (go_at_call 152; refine (FC.out _).mono ?_; rintro e w' ⟨rfl, GV⟩))
    all_goals
      go_ret
      exact ⟨rfl, by first | exact (Gr.refl _).alloc _ | exact ((Gr.refl _).alloc _).trans GV⟩
  | true =>
  have ht : t = 1 ∨ t = 2 ∨ t = 3 ∨ t = 4 ∨ t = 5 := by simp [withinB] at h1; omega
  rcases ht with rfl | rfl | rfl | rfl | rfl
  · replace HP : Hid (∀ W, Calls Tryz.prog 151 #[.int .i64 1] W fun e w' => e = .returned (.bool false) ∧ W = w') := HP
    by_cases l0 : len = 0
    · subst l0
      have z0 : withinB 0 0 0 = true := rfl
      by_cases ir : id = r
      · subst ir
        have E : Hid (headP 1 id 0 id seq age sum = 0) := Lib.hid (by simp [headP, h1, h2, h3, h4, h5, fitsB])
        rw [E.out]
        clear E
        go_enter Tryz.func114, Tryz.ntmps114
        go_wp2_with (first | (go_at_call 151; refine (HP.out _).mono ?_; rintro e w' ⟨rfl, rfl⟩) | (go_at_call 118; refine (lwithin_calls _ _ _ _).mono ?_; rintro e w' ⟨rfl, rfl⟩) | (go_at_call 152; refine (FC.out _).mono ?_; rintro e w' ⟨rfl, GV⟩))
        all_goals
          go_ret
          exact ⟨rfl, by first | exact (Gr.refl _).alloc _ | exact ((Gr.refl _).alloc _).trans GV⟩
      · have d1 : (id == r) = false := by simpa using ir
        have d2 : (id != r) = true := by simpa using ir
        have E : Hid (headP 1 id 0 r seq age sum = 14) := Lib.hid (by simp [headP, h1, h2, h3, h4, h5, ir])
        rw [E.out]
        clear E
        go_enter Tryz.func114, Tryz.ntmps114
        go_wp2_with (first | (go_at_call 151; refine (HP.out _).mono ?_; rintro e w' ⟨rfl, rfl⟩) | (go_at_call 118; refine (lwithin_calls _ _ _ _).mono ?_; rintro e w' ⟨rfl, rfl⟩) | (go_at_call 152; refine (FC.out _).mono ?_; rintro e w' ⟨rfl, GV⟩))
        all_goals
          go_ret
          exact ⟨rfl, by first | exact (Gr.refl _).alloc _ | exact ((Gr.refl _).alloc _).trans GV⟩
    · have d1 : withinB len 0 0 = false := by unfold withinB; by_cases c : 0 ≤ len <;> simp [c] <;> omega
      have E : Hid (headP 1 id len r seq age sum = 5) := Lib.hid (by simp [headP, h1, h2, h3, h4, h5, l0])
      rw [E.out]
      clear E
      go_enter Tryz.func114, Tryz.ntmps114
      go_wp2_with (first | (go_at_call 151; refine (HP.out _).mono ?_; rintro e w' ⟨rfl, rfl⟩) | (go_at_call 118; refine (lwithin_calls _ _ _ _).mono ?_; rintro e w' ⟨rfl, rfl⟩) | (go_at_call 152; refine (FC.out _).mono ?_; rintro e w' ⟨rfl, GV⟩))
      all_goals
        go_ret
        exact ⟨rfl, by first | exact (Gr.refl _).alloc _ | exact ((Gr.refl _).alloc _).trans GV⟩
  · replace HP : Hid (∀ W, Calls Tryz.prog 151 #[.int .i64 2] W fun e w' => e = .returned (.bool true) ∧ W = w') := HP
    cases h6 : withinB len 0 32 with
    | false =>
      have E : Hid (headP 2 id len r seq age sum = 5) := Lib.hid (by simp [headP, h1, h2, h3, h4, h5, h6])
      rw [E.out]
      clear E
      go_enter Tryz.func114, Tryz.ntmps114
      go_wp2_with (first | (go_at_call 151; refine (HP.out _).mono ?_; rintro e w' ⟨rfl, rfl⟩) | (go_at_call 118; refine (lwithin_calls _ _ _ _).mono ?_; rintro e w' ⟨rfl, rfl⟩) | (go_at_call 152; refine (FC.out _).mono ?_; rintro e w' ⟨rfl, GV⟩))
      all_goals
        go_ret
        exact ⟨rfl, by first | exact (Gr.refl _).alloc _ | exact ((Gr.refl _).alloc _).trans GV⟩
    | true =>
      by_cases z : id = 0
      · subst z
        have E : Hid (headP 2 0 len r seq age sum = 1) := Lib.hid (by simp [headP, h1, h2, h3, h4, h5, h6])
        rw [E.out]
        clear E
        go_enter Tryz.func114, Tryz.ntmps114
        go_wp2_with (first | (go_at_call 151; refine (HP.out _).mono ?_; rintro e w' ⟨rfl, rfl⟩) | (go_at_call 118; refine (lwithin_calls _ _ _ _).mono ?_; rintro e w' ⟨rfl, rfl⟩) | (go_at_call 152; refine (FC.out _).mono ?_; rintro e w' ⟨rfl, GV⟩))
        all_goals
          go_ret
          exact ⟨rfl, by first | exact (Gr.refl _).alloc _ | exact ((Gr.refl _).alloc _).trans GV⟩
      · have d1 : (id == 0) = false := by simpa using z
        have E : Hid (headP 2 id len r seq age sum = 0) := Lib.hid (by simp [headP, h1, h2, h3, h4, h5, h6, z])
        rw [E.out]
        clear E
        go_enter Tryz.func114, Tryz.ntmps114
        go_wp2_with (first | (go_at_call 151; refine (HP.out _).mono ?_; rintro e w' ⟨rfl, rfl⟩) | (go_at_call 118; refine (lwithin_calls _ _ _ _).mono ?_; rintro e w' ⟨rfl, rfl⟩) | (go_at_call 152; refine (FC.out _).mono ?_; rintro e w' ⟨rfl, GV⟩))
        all_goals
          go_ret
          exact ⟨rfl, by first | exact (Gr.refl _).alloc _ | exact ((Gr.refl _).alloc _).trans GV⟩
  · replace HP : Hid (∀ W, Calls Tryz.prog 151 #[.int .i64 3] W fun e w' => e = .returned (.bool true) ∧ W = w') := HP
    cases h6 : withinB len 0 32 with
    | false =>
      have E : Hid (headP 3 id len r seq age sum = 5) := Lib.hid (by simp [headP, h1, h2, h3, h4, h5, h6])
      rw [E.out]
      clear E
      go_enter Tryz.func114, Tryz.ntmps114
      go_wp2_with (first | (go_at_call 151; refine (HP.out _).mono ?_; rintro e w' ⟨rfl, rfl⟩) | (go_at_call 118; refine (lwithin_calls _ _ _ _).mono ?_; rintro e w' ⟨rfl, rfl⟩) | (go_at_call 152; refine (FC.out _).mono ?_; rintro e w' ⟨rfl, GV⟩))
      all_goals
        go_ret
        exact ⟨rfl, by first | exact (Gr.refl _).alloc _ | exact ((Gr.refl _).alloc _).trans GV⟩
    | true =>
      cases h7 : fitsB id len with
      | false =>
        rw [h7] at FC
        have E : Hid (headP 3 id len r seq age sum = 1) := Lib.hid (by simp [headP, h1, h2, h3, h4, h5, h6, h7])
        rw [E.out]
        clear E
        go_enter Tryz.func114, Tryz.ntmps114
        go_wp2_with (first | (go_at_call 151; refine (HP.out _).mono ?_; rintro e w' ⟨rfl, rfl⟩) | (go_at_call 118; refine (lwithin_calls _ _ _ _).mono ?_; rintro e w' ⟨rfl, rfl⟩) | (go_at_call 152; refine (FC.out _).mono ?_; rintro e w' ⟨rfl, GV⟩))
        all_goals
          go_ret
          exact ⟨rfl, by first | exact (Gr.refl _).alloc _ | exact ((Gr.refl _).alloc _).trans GV⟩
      | true =>
        rw [h7] at FC
        have E : Hid (headP 3 id len r seq age sum = 0) := Lib.hid (by simp [headP, h1, h2, h3, h4, h5, h6, h7])
        rw [E.out]
        clear E
        go_enter Tryz.func114, Tryz.ntmps114
        go_wp2_with (first | (go_at_call 151; refine (HP.out _).mono ?_; rintro e w' ⟨rfl, rfl⟩) | (go_at_call 118; refine (lwithin_calls _ _ _ _).mono ?_; rintro e w' ⟨rfl, rfl⟩) | (go_at_call 152; refine (FC.out _).mono ?_; rintro e w' ⟨rfl, GV⟩; have y0 := bcell GV.b (a := ⟨w.heap.size, 0, none⟩) (v := .int .i64 3) (blk_cell (alloc_new w _) rfl)))
        all_goals
          go_ret
          exact ⟨rfl, by first | exact (Gr.refl _).alloc _ | exact ((Gr.refl _).alloc _).trans GV⟩
  · replace HP : Hid (∀ W, Calls Tryz.prog 151 #[.int .i64 4] W fun e w' => e = .returned (.bool false) ∧ W = w') := HP
    by_cases l0 : len = 0
    · subst l0
      have z0 : withinB 0 0 0 = true := rfl
      by_cases z : id = 0
      · subst z
        have E : Hid (headP 4 0 0 r seq age sum = 1) := Lib.hid (by simp [headP, h1, h2, h3, h4, h5])
        rw [E.out]
        clear E
        go_enter Tryz.func114, Tryz.ntmps114
        go_wp2_with (first | (go_at_call 151; refine (HP.out _).mono ?_; rintro e w' ⟨rfl, rfl⟩) | (go_at_call 118; refine (lwithin_calls _ _ _ _).mono ?_; rintro e w' ⟨rfl, rfl⟩) | (go_at_call 152; refine (FC.out _).mono ?_; rintro e w' ⟨rfl, GV⟩))
        all_goals
          go_ret
          exact ⟨rfl, by first | exact (Gr.refl _).alloc _ | exact ((Gr.refl _).alloc _).trans GV⟩
      · have d1 : (id == 0) = false := by simpa using z
        have E : Hid (headP 4 id 0 r seq age sum = 0) := Lib.hid (by simp [headP, h1, h2, h3, h4, h5, z])
        rw [E.out]
        clear E
        go_enter Tryz.func114, Tryz.ntmps114
        go_wp2_with (first | (go_at_call 151; refine (HP.out _).mono ?_; rintro e w' ⟨rfl, rfl⟩) | (go_at_call 118; refine (lwithin_calls _ _ _ _).mono ?_; rintro e w' ⟨rfl, rfl⟩) | (go_at_call 152; refine (FC.out _).mono ?_; rintro e w' ⟨rfl, GV⟩))
        all_goals
          go_ret
          exact ⟨rfl, by first | exact (Gr.refl _).alloc _ | exact ((Gr.refl _).alloc _).trans GV⟩
    · have d1 : withinB len 0 0 = false := by unfold withinB; by_cases c : 0 ≤ len <;> simp [c] <;> omega
      have E : Hid (headP 4 id len r seq age sum = 5) := Lib.hid (by simp [headP, h1, h2, h3, h4, h5, l0])
      rw [E.out]
      clear E
      go_enter Tryz.func114, Tryz.ntmps114
      go_wp2_with (first | (go_at_call 151; refine (HP.out _).mono ?_; rintro e w' ⟨rfl, rfl⟩) | (go_at_call 118; refine (lwithin_calls _ _ _ _).mono ?_; rintro e w' ⟨rfl, rfl⟩) | (go_at_call 152; refine (FC.out _).mono ?_; rintro e w' ⟨rfl, GV⟩))
      all_goals
        go_ret
        exact ⟨rfl, by first | exact (Gr.refl _).alloc _ | exact ((Gr.refl _).alloc _).trans GV⟩
  · replace HP : Hid (∀ W, Calls Tryz.prog 151 #[.int .i64 5] W fun e w' => e = .returned (.bool true) ∧ W = w') := HP
    cases h6 : withinB len 0 32 with
    | false =>
      have E : Hid (headP 5 id len r seq age sum = 5) := Lib.hid (by simp [headP, h1, h2, h3, h4, h5, h6])
      rw [E.out]
      clear E
      go_enter Tryz.func114, Tryz.ntmps114
      go_wp2_with (first | (go_at_call 151; refine (HP.out _).mono ?_; rintro e w' ⟨rfl, rfl⟩) | (go_at_call 118; refine (lwithin_calls _ _ _ _).mono ?_; rintro e w' ⟨rfl, rfl⟩) | (go_at_call 152; refine (FC.out _).mono ?_; rintro e w' ⟨rfl, GV⟩))
      all_goals
        go_ret
        exact ⟨rfl, by first | exact (Gr.refl _).alloc _ | exact ((Gr.refl _).alloc _).trans GV⟩
    | true =>
      cases h7 : fitsB id len with
      | false =>
        rw [h7] at FC
        have E : Hid (headP 5 id len r seq age sum = 1) := Lib.hid (by simp [headP, h1, h2, h3, h4, h5, h6, h7])
        rw [E.out]
        clear E
        go_enter Tryz.func114, Tryz.ntmps114
        go_wp2_with (first | (go_at_call 151; refine (HP.out _).mono ?_; rintro e w' ⟨rfl, rfl⟩) | (go_at_call 118; refine (lwithin_calls _ _ _ _).mono ?_; rintro e w' ⟨rfl, rfl⟩) | (go_at_call 152; refine (FC.out _).mono ?_; rintro e w' ⟨rfl, GV⟩))
        all_goals
          go_ret
          exact ⟨rfl, by first | exact (Gr.refl _).alloc _ | exact ((Gr.refl _).alloc _).trans GV⟩
      | true =>
        rw [h7] at FC
        have E : Hid (headP 5 id len r seq age sum = 0) := Lib.hid (by simp [headP, h1, h2, h3, h4, h5, h6, h7])
        rw [E.out]
        clear E
        go_enter Tryz.func114, Tryz.ntmps114
        go_wp2_with (first | (go_at_call 151; refine (HP.out _).mono ?_; rintro e w' ⟨rfl, rfl⟩) | (go_at_call 118; refine (lwithin_calls _ _ _ _).mono ?_; rintro e w' ⟨rfl, rfl⟩) | (go_at_call 152; refine (FC.out _).mono ?_; rintro e w' ⟨rfl, GV⟩; have y0 := bcell GV.b (a := ⟨w.heap.size, 0, none⟩) (v := .int .i64 5) (blk_cell (alloc_new w _) rfl)))
        all_goals
          go_ret
          exact ⟨rfl, by first | exact (Gr.refl _).alloc _ | exact ((Gr.refl _).alloc _).trans GV⟩

end Go.Proofs.YtddageahmgaigaaGreat
