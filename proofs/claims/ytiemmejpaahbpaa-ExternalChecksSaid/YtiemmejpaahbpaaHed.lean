/-
  routingref23.Head: the error of a header.
-/
import Derived.Test.YtiemmejpaahbpaaSea
import Derived.Test.YtiemmejpaahbpaaLsa
namespace Go.Proofs.Ytiemmejpaahbpaa
open Go.RowKit

/-- the error of a header -/
def headP (t id len r seq age sum : Int) : Int :=
  if withinB t 1 5 = false then 15
  else if r = 0 ∨ withinB seq 1 2147483647 = false ∨ withinB age 0 3600 = false ∨ withinB sum 0 65535 = false then 5
  else if (t = 1 ∨ t = 4) ∧ len ≠ 0 ∨ ¬(t = 1 ∨ t = 4) ∧ withinB len 0 32 = false then 5
  else if t = 1 ∧ id ≠ r then 14
  else if (t = 3 ∨ t = 5) ∧ fitsB id len = false then 1
  else if (t = 2 ∨ t = 4) ∧ id = 0 then 1 else 0

def hdE (t id len r seq age sum : Int) : List Value := [.int .i64 t, .int .u32 id, .int .i64 len, .int .u32 r, .int .i64 seq, .int .i64 age, .int .i64 sum]
def HeadPost (w : World) (c : Int) (e : Ending) (w' : World) : Prop := e = .returned (.int .i64 c) ∧ Gr w w'

set_option maxHeartbeats 4000000 in
theorem head_calls (t id len r seq age sum : Int) (i0 : 0 ≤ id) (i1 : id < 4294967296) (w : World) : Calls Try.prog 45 #[.agg (hdE t id len r seq age sum).toArray] w (HeadPost w (headP t id len r seq age sum)) := by
  have FC := Lib.hid (fun W => fits_calls id len i0 i1 W)
  unfold hdE
  cases h1 : withinB t 1 5 with
  | false =>
    have E : Hid (headP t id len r seq age sum = 15) := Lib.hid (by simp [headP, h1])
    rw [E.out]
    clear E
    go_enter Try.func45, Try.ntmps45
    go_wp2_with (first | (go_at_call 49; refine (within_calls _ _ _ _).mono ?_; rintro e w' ⟨rfl, rfl⟩) | (go_at_call 27; refine (FC.out _).mono ?_; rintro e w' ⟨rfl, rfl⟩))
    go_ret
    exact ⟨rfl, (Gr.refl _).alloc _⟩
  | true =>
  by_cases h2 : r = 0
  · subst h2
    have E : Hid (headP t id len 0 seq age sum = 5) := Lib.hid (by simp [headP, h1])
    rw [E.out]
    clear E
    go_enter Try.func45, Try.ntmps45
    go_wp2_with (first | (go_at_call 49; refine (within_calls _ _ _ _).mono ?_; rintro e w' ⟨rfl, rfl⟩) | (go_at_call 27; refine (FC.out _).mono ?_; rintro e w' ⟨rfl, rfl⟩))
    go_ret
    exact ⟨rfl, (Gr.refl _).alloc _⟩
  have h2' : (r == 0) = false := by simpa using h2
  cases h3 : withinB seq 1 2147483647 with
  | false =>
    have E : Hid (headP t id len r seq age sum = 5) := Lib.hid (by simp [headP, h1, h2, h3])
    rw [E.out]
    clear E
    go_enter Try.func45, Try.ntmps45
    go_wp2_with (first | (go_at_call 49; refine (within_calls _ _ _ _).mono ?_; rintro e w' ⟨rfl, rfl⟩) | (go_at_call 27; refine (FC.out _).mono ?_; rintro e w' ⟨rfl, rfl⟩))
    go_ret
    exact ⟨rfl, (Gr.refl _).alloc _⟩
  | true =>
  cases h4 : withinB age 0 3600 with
  | false =>
    have E : Hid (headP t id len r seq age sum = 5) := Lib.hid (by simp [headP, h1, h2, h3, h4])
    rw [E.out]
    clear E
    go_enter Try.func45, Try.ntmps45
    go_wp2_with (first | (go_at_call 49; refine (within_calls _ _ _ _).mono ?_; rintro e w' ⟨rfl, rfl⟩) | (go_at_call 27; refine (FC.out _).mono ?_; rintro e w' ⟨rfl, rfl⟩))
    go_ret
    exact ⟨rfl, (Gr.refl _).alloc _⟩
  | true =>
  cases h5 : withinB sum 0 65535 with
  | false =>
    have E : Hid (headP t id len r seq age sum = 5) := Lib.hid (by simp [headP, h1, h2, h3, h4, h5])
    rw [E.out]
    clear E
    go_enter Try.func45, Try.ntmps45
    go_wp2_with (first | (go_at_call 49; refine (within_calls _ _ _ _).mono ?_; rintro e w' ⟨rfl, rfl⟩) | (go_at_call 27; refine (FC.out _).mono ?_; rintro e w' ⟨rfl, rfl⟩))
    go_ret
    exact ⟨rfl, (Gr.refl _).alloc _⟩
  | true =>
  have ht : t = 1 ∨ t = 2 ∨ t = 3 ∨ t = 4 ∨ t = 5 := by simp [withinB] at h1; omega
  rcases ht with rfl | rfl | rfl | rfl | rfl
  · by_cases l0 : len = 0
    · subst l0
      by_cases ir : id = r
      · subst ir
        have E : Hid (headP 1 id 0 id seq age sum = 0) := Lib.hid (by simp [headP, h1, h2, h3, h4, h5, fitsB])
        rw [E.out]
        clear E
        go_enter Try.func45, Try.ntmps45
        go_wp2_with (first | (go_at_call 49; refine (within_calls _ _ _ _).mono ?_; rintro e w' ⟨rfl, rfl⟩) | (go_at_call 27; refine (FC.out _).mono ?_; rintro e w' ⟨rfl, rfl⟩))
        go_ret
        exact ⟨rfl, (Gr.refl _).alloc _⟩
      · have d1 : (id == r) = false := by simpa using ir
        have d2 : (id != r) = true := by simpa using ir
        have E : Hid (headP 1 id 0 r seq age sum = 14) := Lib.hid (by simp [headP, h1, h2, h3, h4, h5, ir])
        rw [E.out]
        clear E
        go_enter Try.func45, Try.ntmps45
        go_wp2_with (first | (go_at_call 49; refine (within_calls _ _ _ _).mono ?_; rintro e w' ⟨rfl, rfl⟩) | (go_at_call 27; refine (FC.out _).mono ?_; rintro e w' ⟨rfl, rfl⟩))
        go_ret
        exact ⟨rfl, (Gr.refl _).alloc _⟩
    · have d1 : (len == 0) = false := by simpa using l0
      have d2 : (len != 0) = true := by simpa using l0
      have E : Hid (headP 1 id len r seq age sum = 5) := Lib.hid (by simp [headP, h1, h2, h3, h4, h5, l0])
      rw [E.out]
      clear E
      go_enter Try.func45, Try.ntmps45
      go_wp2_with (first | (go_at_call 49; refine (within_calls _ _ _ _).mono ?_; rintro e w' ⟨rfl, rfl⟩) | (go_at_call 27; refine (FC.out _).mono ?_; rintro e w' ⟨rfl, rfl⟩))
      go_ret
      exact ⟨rfl, (Gr.refl _).alloc _⟩
  · cases h6 : withinB len 0 32 with
    | false =>
      have E : Hid (headP 2 id len r seq age sum = 5) := Lib.hid (by simp [headP, h1, h2, h3, h4, h5, h6])
      rw [E.out]
      clear E
      go_enter Try.func45, Try.ntmps45
      go_wp2_with (first | (go_at_call 49; refine (within_calls _ _ _ _).mono ?_; rintro e w' ⟨rfl, rfl⟩) | (go_at_call 27; refine (FC.out _).mono ?_; rintro e w' ⟨rfl, rfl⟩))
      go_ret
      exact ⟨rfl, (Gr.refl _).alloc _⟩
    | true =>
      by_cases z : id = 0
      · subst z
        have E : Hid (headP 2 0 len r seq age sum = 1) := Lib.hid (by simp [headP, h1, h2, h3, h4, h5, h6])
        rw [E.out]
        clear E
        go_enter Try.func45, Try.ntmps45
        go_wp2_with (first | (go_at_call 49; refine (within_calls _ _ _ _).mono ?_; rintro e w' ⟨rfl, rfl⟩) | (go_at_call 27; refine (FC.out _).mono ?_; rintro e w' ⟨rfl, rfl⟩))
        go_ret
        exact ⟨rfl, (Gr.refl _).alloc _⟩
      · have d1 : (id == 0) = false := by simpa using z
        have E : Hid (headP 2 id len r seq age sum = 0) := Lib.hid (by simp [headP, h1, h2, h3, h4, h5, h6, z])
        rw [E.out]
        clear E
        go_enter Try.func45, Try.ntmps45
        go_wp2_with (first | (go_at_call 49; refine (within_calls _ _ _ _).mono ?_; rintro e w' ⟨rfl, rfl⟩) | (go_at_call 27; refine (FC.out _).mono ?_; rintro e w' ⟨rfl, rfl⟩))
        go_ret
        exact ⟨rfl, (Gr.refl _).alloc _⟩
  · cases h6 : withinB len 0 32 with
    | false =>
      have E : Hid (headP 3 id len r seq age sum = 5) := Lib.hid (by simp [headP, h1, h2, h3, h4, h5, h6])
      rw [E.out]
      clear E
      go_enter Try.func45, Try.ntmps45
      go_wp2_with (first | (go_at_call 49; refine (within_calls _ _ _ _).mono ?_; rintro e w' ⟨rfl, rfl⟩) | (go_at_call 27; refine (FC.out _).mono ?_; rintro e w' ⟨rfl, rfl⟩))
      go_ret
      exact ⟨rfl, (Gr.refl _).alloc _⟩
    | true =>
      cases h7 : fitsB id len with
      | false =>
        rw [h7] at FC
        have E : Hid (headP 3 id len r seq age sum = 1) := Lib.hid (by simp [headP, h1, h2, h3, h4, h5, h6, h7])
        rw [E.out]
        clear E
        go_enter Try.func45, Try.ntmps45
        go_wp2_with (first | (go_at_call 49; refine (within_calls _ _ _ _).mono ?_; rintro e w' ⟨rfl, rfl⟩) | (go_at_call 27; refine (FC.out _).mono ?_; rintro e w' ⟨rfl, rfl⟩))
        go_ret
        exact ⟨rfl, (Gr.refl _).alloc _⟩
      | true =>
        rw [h7] at FC
        have E : Hid (headP 3 id len r seq age sum = 0) := Lib.hid (by simp [headP, h1, h2, h3, h4, h5, h6, h7])
        rw [E.out]
        clear E
        go_enter Try.func45, Try.ntmps45
        go_wp2_with (first | (go_at_call 49; refine (within_calls _ _ _ _).mono ?_; rintro e w' ⟨rfl, rfl⟩) | (go_at_call 27; refine (FC.out _).mono ?_; rintro e w' ⟨rfl, rfl⟩))
        go_ret
        exact ⟨rfl, (Gr.refl _).alloc _⟩
  · by_cases l0 : len = 0
    · subst l0
      by_cases z : id = 0
      · subst z
        have E : Hid (headP 4 0 0 r seq age sum = 1) := Lib.hid (by simp [headP, h1, h2, h3, h4, h5])
        rw [E.out]
        clear E
        go_enter Try.func45, Try.ntmps45
        go_wp2_with (first | (go_at_call 49; refine (within_calls _ _ _ _).mono ?_; rintro e w' ⟨rfl, rfl⟩) | (go_at_call 27; refine (FC.out _).mono ?_; rintro e w' ⟨rfl, rfl⟩))
        go_ret
        exact ⟨rfl, (Gr.refl _).alloc _⟩
      · have d1 : (id == 0) = false := by simpa using z
        have E : Hid (headP 4 id 0 r seq age sum = 0) := Lib.hid (by simp [headP, h1, h2, h3, h4, h5, z])
        rw [E.out]
        clear E
        go_enter Try.func45, Try.ntmps45
        go_wp2_with (first | (go_at_call 49; refine (within_calls _ _ _ _).mono ?_; rintro e w' ⟨rfl, rfl⟩) | (go_at_call 27; refine (FC.out _).mono ?_; rintro e w' ⟨rfl, rfl⟩))
        go_ret
        exact ⟨rfl, (Gr.refl _).alloc _⟩
    · have d1 : (len == 0) = false := by simpa using l0
      have d2 : (len != 0) = true := by simpa using l0
      have E : Hid (headP 4 id len r seq age sum = 5) := Lib.hid (by simp [headP, h1, h2, h3, h4, h5, l0])
      rw [E.out]
      clear E
      go_enter Try.func45, Try.ntmps45
      go_wp2_with (first | (go_at_call 49; refine (within_calls _ _ _ _).mono ?_; rintro e w' ⟨rfl, rfl⟩) | (go_at_call 27; refine (FC.out _).mono ?_; rintro e w' ⟨rfl, rfl⟩))
      go_ret
      exact ⟨rfl, (Gr.refl _).alloc _⟩
  · cases h6 : withinB len 0 32 with
    | false =>
      have E : Hid (headP 5 id len r seq age sum = 5) := Lib.hid (by simp [headP, h1, h2, h3, h4, h5, h6])
      rw [E.out]
      clear E
      go_enter Try.func45, Try.ntmps45
      go_wp2_with (first | (go_at_call 49; refine (within_calls _ _ _ _).mono ?_; rintro e w' ⟨rfl, rfl⟩) | (go_at_call 27; refine (FC.out _).mono ?_; rintro e w' ⟨rfl, rfl⟩))
      go_ret
      exact ⟨rfl, (Gr.refl _).alloc _⟩
    | true =>
      cases h7 : fitsB id len with
      | false =>
        rw [h7] at FC
        have E : Hid (headP 5 id len r seq age sum = 1) := Lib.hid (by simp [headP, h1, h2, h3, h4, h5, h6, h7])
        rw [E.out]
        clear E
        go_enter Try.func45, Try.ntmps45
        go_wp2_with (first | (go_at_call 49; refine (within_calls _ _ _ _).mono ?_; rintro e w' ⟨rfl, rfl⟩) | (go_at_call 27; refine (FC.out _).mono ?_; rintro e w' ⟨rfl, rfl⟩))
        go_ret
        exact ⟨rfl, (Gr.refl _).alloc _⟩
      | true =>
        rw [h7] at FC
        have E : Hid (headP 5 id len r seq age sum = 0) := Lib.hid (by simp [headP, h1, h2, h3, h4, h5, h6, h7])
        rw [E.out]
        clear E
        go_enter Try.func45, Try.ntmps45
        go_wp2_with (first | (go_at_call 49; refine (within_calls _ _ _ _).mono ?_; rintro e w' ⟨rfl, rfl⟩) | (go_at_call 27; refine (FC.out _).mono ?_; rintro e w' ⟨rfl, rfl⟩))
        go_ret
        exact ⟨rfl, (Gr.refl _).alloc _⟩

end Go.Proofs.Ytiemmejpaahbpaa
