/-
  routingref23.Head: the error of a header.
-/
/-
  routingref23.unused and Check, of summaries, boundaries and external advertisements.
-/
/-
  routingref23.Check, of summaries, boundaries and external advertisements.
-/
import Derived.Test.YtogdconliofblaaGreatSea
import Derived.Test.YtogdconliofblaaGreatLkk
namespace Go.Proofs.YtogdconliofblaaGreat
open Go.RowKit

/-- the error of a header -/
def headP (t id len r seq age sum : Int) : Int :=
  if withinB t 1 5 = false then 15
  else if r = 0 ∨ withinB seq 1 2147483647 = false ∨ withinB age 0 3600 = false ∨ withinB sum 0 65535 = false then 5
  else if (t = 1 ∨ t = 4) ∧ len ≠ 0 ∨ ¬(t = 1 ∨ t = 4) ∧ withinB len 0 32 = false then 5
  else if t = 1 ∧ id ≠ r then 14
  else if (t = 3 ∨ t = 5) ∧ fitsB id len = false then 1
  else if (t = 2 ∨ t = 4) ∧ id = 0 then 1 else 0

def hdE (t id len r seq age sum : Int) : List Value := [.int .i64 t, .int .u32 id, .int .i64 len, .int .u32 r, .int .i64 seq, .int .i64 age, .int .i64 sum]
def HeadPost (w : World) (c : Int) (e : Ending) (w' : World) : Prop := e = .returned (.int .i64 c) ∧ Gr w w'

set_option maxHeartbeats 4000000 in
theorem head_calls (t id len r seq age sum : Int) (i0 : 0 ≤ id) (i1 : id < 4294967296) (w : World) : Calls Tryz.prog 117 #[.agg (hdE t id len r seq age sum).toArray] w (HeadPost w (headP t id len r seq age sum)) := by
  have FC := Lib.hid (fun W => fits_calls id len i0 i1 W)
  unfold hdE
  cases h1 : withinB t 1 5 with
  | false =>
    have E : Hid (headP t id len r seq age sum = 15) := Lib.hid (by simp [headP, h1])
    rw [E.out]
    clear E
    go_enter Tryz.func117, Tryz.ntmps117
    go_wp2_with (first | (go_at_call 121; refine (within_calls _ _ _ _).mono ?_; rintro e w' ⟨rfl, rfl⟩) | (go_at_call 70; refine (FC.out _).mono ?_; rintro e w' ⟨rfl, rfl⟩))
    go_ret
    exact ⟨rfl, (Gr.refl _).alloc _⟩
  | true =>
  by_cases h2 : r = 0
  · subst h2
    have E : Hid (headP t id len 0 seq age sum = 5) := Lib.hid (by simp [headP, h1])
    rw [E.out]
    clear E
    go_enter Tryz.func117, Tryz.ntmps117
    go_wp2_with (first | (go_at_call 121; refine (within_calls _ _ _ _).mono ?_; rintro e w' ⟨rfl, rfl⟩) | (go_at_call 70; refine (FC.out _).mono ?_; rintro e w' ⟨rfl, rfl⟩))
    go_ret
    exact ⟨rfl, (Gr.refl _).alloc _⟩
  have h2' : (r == 0) = false := by simpa using h2
  cases h3 : withinB seq 1 2147483647 with
  | false =>
    have E : Hid (headP t id len r seq age sum = 5) := Lib.hid (by simp [headP, h1, h2, h3])
    rw [E.out]
    clear E
    go_enter Tryz.func117, Tryz.ntmps117
    go_wp2_with (first | (go_at_call 121; refine (within_calls _ _ _ _).mono ?_; rintro e w' ⟨rfl, rfl⟩) | (go_at_call 70; refine (FC.out _).mono ?_; rintro e w' ⟨rfl, rfl⟩))
    go_ret
    exact ⟨rfl, (Gr.refl _).alloc _⟩
  | true =>
  cases h4 : withinB age 0 3600 with
  | false =>
    have E : Hid (headP t id len r seq age sum = 5) := Lib.hid (by simp [headP, h1, h2, h3, h4])
    rw [E.out]
    clear E
    go_enter Tryz.func117, Tryz.ntmps117
    go_wp2_with (first | (go_at_call 121; refine (within_calls _ _ _ _).mono ?_; rintro e w' ⟨rfl, rfl⟩) | (go_at_call 70; refine (FC.out _).mono ?_; rintro e w' ⟨rfl, rfl⟩))
    go_ret
    exact ⟨rfl, (Gr.refl _).alloc _⟩
  | true =>
  cases h5 : withinB sum 0 65535 with
  | false =>
    have E : Hid (headP t id len r seq age sum = 5) := Lib.hid (by simp [headP, h1, h2, h3, h4, h5])
    rw [E.out]
    clear E
    go_enter Tryz.func117, Tryz.ntmps117
    go_wp2_with (first | (go_at_call 121; refine (within_calls _ _ _ _).mono ?_; rintro e w' ⟨rfl, rfl⟩) | (go_at_call 70; refine (FC.out _).mono ?_; rintro e w' ⟨rfl, rfl⟩))
    go_ret
    exact ⟨rfl, (Gr.refl _).alloc _⟩
  | true =>
  have ht : t = 1 ∨ t = 2 ∨ t = 3 ∨ t = 4 ∨ t = 5 := by simp [withinB] at h1; omega
  rcases ht with rfl | rfl | rfl | rfl | rfl
  · by_cases l0 : len = 0
    · subst l0
      by_cases ir : id = r
      · subst ir
        have E : Hid (headP 1 id 0 id seq age sum = 0) := Lib.hid (by simp [headP, h1, h2, h3, h4, h5, fitsB])
        rw [E.out]
        clear E
        go_enter Tryz.func117, Tryz.ntmps117
        go_wp2_with (first | (go_at_call 121; refine (within_calls _ _ _ _).mono ?_; rintro e w' ⟨rfl, rfl⟩) | (go_at_call 70; refine (FC.out _).mono ?_; rintro e w' ⟨rfl, rfl⟩))
        go_ret
        exact ⟨rfl, (Gr.refl _).alloc _⟩
      · have d1 : (id == r) = false := by simpa using ir
        have d2 : (id != r) = true := by simpa using ir
        have E : Hid (headP 1 id 0 r seq age sum = 14) := Lib.hid (by simp [headP, h1, h2, h3, h4, h5, ir])
        rw [E.out]
        clear E
        go_enter Tryz.func117, Tryz.ntmps117
        go_wp2_with (first | (go_at_call 121; refine (within_calls _ _ _ _).mono ?_; rintro e w' ⟨rfl, rfl⟩) | (go_at_call 70; refine (FC.out _).mono ?_; rintro e w' ⟨rfl, rfl⟩))
        go_ret
        exact ⟨rfl, (Gr.refl _).alloc _⟩
    · have d1 : (len == 0) = false := by simpa using l0
      have d2 : (len != 0) = true := by simpa using l0
      have E : Hid (headP 1 id len r seq age sum = 5) := Lib.hid (by simp [headP, h1, h2, h3, h4, h5, l0])
      rw [E.out]
      clear E
      go_enter Tryz.func117, Tryz.ntmps117
      go_wp2_with (first | (go_at_call 121; refine (within_calls _ _ _ _).mono ?_; rintro e w' ⟨rfl, rfl⟩) | (go_at_call 70; refine (FC.out _).mono ?_; rintro e w' ⟨rfl, rfl⟩))
      go_ret
      exact ⟨rfl, (Gr.refl _).alloc _⟩
  · cases h6 : withinB len 0 32 with
    | false =>
      have E : Hid (headP 2 id len r seq age sum = 5) := Lib.hid (by simp [headP, h1, h2, h3, h4, h5, h6])
      rw [E.out]
      clear E
      go_enter Tryz.func117, Tryz.ntmps117
      go_wp2_with (first | (go_at_call 121; refine (within_calls _ _ _ _).mono ?_; rintro e w' ⟨rfl, rfl⟩) | (go_at_call 70; refine (FC.out _).mono ?_; rintro e w' ⟨rfl, rfl⟩))
      go_ret
      exact ⟨rfl, (Gr.refl _).alloc _⟩
    | true =>
      by_cases z : id = 0
      · subst z
        have E : Hid (headP 2 0 len r seq age sum = 1) := Lib.hid (by simp [headP, h1, h2, h3, h4, h5, h6])
        rw [E.out]
        clear E
        go_enter Tryz.func117, Tryz.ntmps117
        go_wp2_with (first | (go_at_call 121; refine (within_calls _ _ _ _).mono ?_; rintro e w' ⟨rfl, rfl⟩) | (go_at_call 70; refine (FC.out _).mono ?_; rintro e w' ⟨rfl, rfl⟩))
        go_ret
        exact ⟨rfl, (Gr.refl _).alloc _⟩
      · have d1 : (id == 0) = false := by simpa using z
        have E : Hid (headP 2 id len r seq age sum = 0) := Lib.hid (by simp [headP, h1, h2, h3, h4, h5, h6, z])
        rw [E.out]
        clear E
        go_enter Tryz.func117, Tryz.ntmps117
        go_wp2_with (first | (go_at_call 121; refine (within_calls _ _ _ _).mono ?_; rintro e w' ⟨rfl, rfl⟩) | (go_at_call 70; refine (FC.out _).mono ?_; rintro e w' ⟨rfl, rfl⟩))
        go_ret
        exact ⟨rfl, (Gr.refl _).alloc _⟩
  · cases h6 : withinB len 0 32 with
    | false =>
      have E : Hid (headP 3 id len r seq age sum = 5) := Lib.hid (by simp [headP, h1, h2, h3, h4, h5, h6])
      rw [E.out]
      clear E
      go_enter Tryz.func117, Tryz.ntmps117
      go_wp2_with (first | (go_at_call 121; refine (within_calls _ _ _ _).mono ?_; rintro e w' ⟨rfl, rfl⟩) | (go_at_call 70; refine (FC.out _).mono ?_; rintro e w' ⟨rfl, rfl⟩))
      go_ret
      exact ⟨rfl, (Gr.refl _).alloc _⟩
    | true =>
      cases h7 : fitsB id len with
      | false =>
        rw [h7] at FC
        have E : Hid (headP 3 id len r seq age sum = 1) := Lib.hid (by simp [headP, h1, h2, h3, h4, h5, h6, h7])
        rw [E.out]
        clear E
        go_enter Tryz.func117, Tryz.ntmps117
        go_wp2_with (first | (go_at_call 121; refine (within_calls _ _ _ _).mono ?_; rintro e w' ⟨rfl, rfl⟩) | (go_at_call 70; refine (FC.out _).mono ?_; rintro e w' ⟨rfl, rfl⟩))
        go_ret
        exact ⟨rfl, (Gr.refl _).alloc _⟩
      | true =>
        rw [h7] at FC
        have E : Hid (headP 3 id len r seq age sum = 0) := Lib.hid (by simp [headP, h1, h2, h3, h4, h5, h6, h7])
        rw [E.out]
        clear E
        go_enter Tryz.func117, Tryz.ntmps117
        go_wp2_with (first | (go_at_call 121; refine (within_calls _ _ _ _).mono ?_; rintro e w' ⟨rfl, rfl⟩) | (go_at_call 70; refine (FC.out _).mono ?_; rintro e w' ⟨rfl, rfl⟩))
        go_ret
        exact ⟨rfl, (Gr.refl _).alloc _⟩
  · by_cases l0 : len = 0
    · subst l0
      by_cases z : id = 0
      · subst z
        have E : Hid (headP 4 0 0 r seq age sum = 1) := Lib.hid (by simp [headP, h1, h2, h3, h4, h5])
        rw [E.out]
        clear E
        go_enter Tryz.func117, Tryz.ntmps117
        go_wp2_with (first | (go_at_call 121; refine (within_calls _ _ _ _).mono ?_; rintro e w' ⟨rfl, rfl⟩) | (go_at_call 70; refine (FC.out _).mono ?_; rintro e w' ⟨rfl, rfl⟩))
        go_ret
        exact ⟨rfl, (Gr.refl _).alloc _⟩
      · have d1 : (id == 0) = false := by simpa using z
        have E : Hid (headP 4 id 0 r seq age sum = 0) := Lib.hid (by simp [headP, h1, h2, h3, h4, h5, z])
        rw [E.out]
        clear E
        go_enter Tryz.func117, Tryz.ntmps117
        go_wp2_with (first | (go_at_call 121; refine (within_calls _ _ _ _).mono ?_; rintro e w' ⟨rfl, rfl⟩) | (go_at_call 70; refine (FC.out _).mono ?_; rintro e w' ⟨rfl, rfl⟩))
        go_ret
        exact ⟨rfl, (Gr.refl _).alloc _⟩
    · have d1 : (len == 0) = false := by simpa using l0
      have d2 : (len != 0) = true := by simpa using l0
      have E : Hid (headP 4 id len r seq age sum = 5) := Lib.hid (by simp [headP, h1, h2, h3, h4, h5, l0])
      rw [E.out]
      clear E
      go_enter Tryz.func117, Tryz.ntmps117
      go_wp2_with (first | (go_at_call 121; refine (within_calls _ _ _ _).mono ?_; rintro e w' ⟨rfl, rfl⟩) | (go_at_call 70; refine (FC.out _).mono ?_; rintro e w' ⟨rfl, rfl⟩))
      go_ret
      exact ⟨rfl, (Gr.refl _).alloc _⟩
  · cases h6 : withinB len 0 32 with
    | false =>
      have E : Hid (headP 5 id len r seq age sum = 5) := Lib.hid (by simp [headP, h1, h2, h3, h4, h5, h6])
      rw [E.out]
      clear E
      go_enter Tryz.func117, Tryz.ntmps117
      go_wp2_with (first | (go_at_call 121; refine (within_calls _ _ _ _).mono ?_; rintro e w' ⟨rfl, rfl⟩) | (go_at_call 70; refine (FC.out _).mono ?_; rintro e w' ⟨rfl, rfl⟩))
      go_ret
      exact ⟨rfl, (Gr.refl _).alloc _⟩
    | true =>
      cases h7 : fitsB id len with
      | false =>
        rw [h7] at FC
        have E : Hid (headP 5 id len r seq age sum = 1) := Lib.hid (by simp [headP, h1, h2, h3, h4, h5, h6, h7])
        rw [E.out]
        clear E
        go_enter Tryz.func117, Tryz.ntmps117
        go_wp2_with (first | (go_at_call 121; refine (within_calls _ _ _ _).mono ?_; rintro e w' ⟨rfl, rfl⟩) | (go_at_call 70; refine (FC.out _).mono ?_; rintro e w' ⟨rfl, rfl⟩))
        go_ret
        exact ⟨rfl, (Gr.refl _).alloc _⟩
      | true =>
        rw [h7] at FC
        have E : Hid (headP 5 id len r seq age sum = 0) := Lib.hid (by simp [headP, h1, h2, h3, h4, h5, h6, h7])
        rw [E.out]
        clear E
        go_enter Tryz.func117, Tryz.ntmps117
        go_wp2_with (first | (go_at_call 121; refine (within_calls _ _ _ _).mono ?_; rintro e w' ⟨rfl, rfl⟩) | (go_at_call 70; refine (FC.out _).mono ?_; rintro e w' ⟨rfl, rfl⟩))
        go_ret
        exact ⟨rfl, (Gr.refl _).alloc _⟩

end Go.Proofs.YtogdconliofblaaGreat

namespace Go.Proofs.YtogdconliofblaaGreat
open Go.RowKit

/-- are the fields zero that do not belong to the type? -/
def unusedP (x : Lsa) : Bool :=
  !(!decide (x.typ = 1) && (x.border || x.boundary || decide (0 < x.ln))) && !(!decide (x.typ = 2) && decide (0 < x.an)) && !(decide (x.typ < 3) && !decide (x.cost = 0)) &&
    (decide (x.typ = 5) || (!x.second && decide (x.fwd = 0) && decide (x.tag = 0)))

set_option maxHeartbeats 4000000 in
theorem unused_calls (x : Lsa) (w : World) : Calls Tryz.prog 118 #[.agg (lsaE x).toArray] w fun e w' => e = .returned (.bool (unusedP x)) ∧ Gr w w' := by
  obtain ⟨typ, id, len, router, seq, age, sum, border, boundary, la, ln, lc, aa, an, ac, cost, second, fwd, tag⟩ := x
  unfold lsaE
  simp only
  by_cases t1 : typ = 1
  · subst t1
    by_cases han : 0 < an
    · have dan : decide ((an : Int) > 0) = true := by simpa using han
      have E : Hid (unusedP ⟨1, id, len, router, seq, age, sum, border, boundary, la, ln, lc, aa, an, ac, cost, second, fwd, tag⟩ = false) := Lib.hid (by simp [unusedP, han])
      rw [E.out]
      clear E
      go_enter Tryz.func118, Tryz.ntmps118
      go_wp2_with fail
      go_ret
      exact ⟨rfl, (Gr.refl _).alloc _⟩
    · obtain rfl : an = 0 := by omega
      by_cases hcost : cost = 0
      · subst hcost
        cases second with
        | true =>
          have E : Hid (unusedP ⟨1, id, len, router, seq, age, sum, border, boundary, la, ln, lc, aa, 0, ac, 0, true, fwd, tag⟩ = false) := Lib.hid (by simp [unusedP])
          rw [E.out]
          clear E
          go_enter Tryz.func118, Tryz.ntmps118
          go_wp2_with fail
          go_ret
          exact ⟨rfl, (Gr.refl _).alloc _⟩
        | false =>
        by_cases hfwd : fwd = 0
        · subst hfwd
          by_cases htag : tag = 0
          · subst htag
            have E : Hid (unusedP ⟨1, id, len, router, seq, age, sum, border, boundary, la, ln, lc, aa, 0, ac, 0, false, 0, 0⟩ = true) := Lib.hid (by simp [unusedP])
            rw [E.out]
            clear E
            go_enter Tryz.func118, Tryz.ntmps118
            go_wp2_with fail
            go_ret
            exact ⟨rfl, (Gr.refl _).alloc _⟩
          · have dtag : (tag == 0) = false := by simpa using htag
            have etag : (tag != 0) = true := by simpa using htag
            have E : Hid (unusedP ⟨1, id, len, router, seq, age, sum, border, boundary, la, ln, lc, aa, 0, ac, 0, false, 0, tag⟩ = false) := Lib.hid (by simp [unusedP, htag])
            rw [E.out]
            clear E
            go_enter Tryz.func118, Tryz.ntmps118
            go_wp2_with fail
            go_ret
            exact ⟨rfl, (Gr.refl _).alloc _⟩
        · have dfwd : (fwd == 0) = false := by simpa using hfwd
          have efwd : (fwd != 0) = true := by simpa using hfwd
          have E : Hid (unusedP ⟨1, id, len, router, seq, age, sum, border, boundary, la, ln, lc, aa, 0, ac, 0, false, fwd, tag⟩ = false) := Lib.hid (by simp [unusedP, hfwd])
          rw [E.out]
          clear E
          go_enter Tryz.func118, Tryz.ntmps118
          go_wp2_with fail
          go_ret
          exact ⟨rfl, (Gr.refl _).alloc _⟩
      · have dcost : (cost == 0) = false := by simpa using hcost
        have ecost : (cost != 0) = true := by simpa using hcost
        have E : Hid (unusedP ⟨1, id, len, router, seq, age, sum, border, boundary, la, ln, lc, aa, 0, ac, cost, second, fwd, tag⟩ = false) := Lib.hid (by simp [unusedP, hcost])
        rw [E.out]
        clear E
        go_enter Tryz.func118, Tryz.ntmps118
        go_wp2_with fail
        go_ret
        exact ⟨rfl, (Gr.refl _).alloc _⟩
  · have t1a : (typ == 1) = false := by simpa using t1
    have t1b : (typ != 1) = true := by simpa using t1
    by_cases t2 : typ = 2
    · subst t2
      cases border with
      | true =>
        have E : Hid (unusedP ⟨2, id, len, router, seq, age, sum, true, boundary, la, ln, lc, aa, an, ac, cost, second, fwd, tag⟩ = false) := Lib.hid (by simp [unusedP])
        rw [E.out]
        clear E
        go_enter Tryz.func118, Tryz.ntmps118
        go_wp2_with fail
        go_ret
        exact ⟨rfl, (Gr.refl _).alloc _⟩
      | false =>
      cases boundary with
      | true =>
        have E : Hid (unusedP ⟨2, id, len, router, seq, age, sum, false, true, la, ln, lc, aa, an, ac, cost, second, fwd, tag⟩ = false) := Lib.hid (by simp [unusedP])
        rw [E.out]
        clear E
        go_enter Tryz.func118, Tryz.ntmps118
        go_wp2_with fail
        go_ret
        exact ⟨rfl, (Gr.refl _).alloc _⟩
      | false =>
      by_cases hln : 0 < ln
      · have dln : decide ((ln : Int) > 0) = true := by simpa using hln
        have E : Hid (unusedP ⟨2, id, len, router, seq, age, sum, false, false, la, ln, lc, aa, an, ac, cost, second, fwd, tag⟩ = false) := Lib.hid (by simp [unusedP, hln])
        rw [E.out]
        clear E
        go_enter Tryz.func118, Tryz.ntmps118
        go_wp2_with fail
        go_ret
        exact ⟨rfl, (Gr.refl _).alloc _⟩
      · obtain rfl : ln = 0 := by omega
        by_cases hcost : cost = 0
        · subst hcost
          cases second with
          | true =>
            have E : Hid (unusedP ⟨2, id, len, router, seq, age, sum, false, false, la, 0, lc, aa, an, ac, 0, true, fwd, tag⟩ = false) := Lib.hid (by simp [unusedP])
            rw [E.out]
            clear E
            go_enter Tryz.func118, Tryz.ntmps118
            go_wp2_with fail
            go_ret
            exact ⟨rfl, (Gr.refl _).alloc _⟩
          | false =>
          by_cases hfwd : fwd = 0
          · subst hfwd
            by_cases htag : tag = 0
            · subst htag
              have E : Hid (unusedP ⟨2, id, len, router, seq, age, sum, false, false, la, 0, lc, aa, an, ac, 0, false, 0, 0⟩ = true) := Lib.hid (by simp [unusedP])
              rw [E.out]
              clear E
              go_enter Tryz.func118, Tryz.ntmps118
              go_wp2_with fail
              go_ret
              exact ⟨rfl, (Gr.refl _).alloc _⟩
            · have dtag : (tag == 0) = false := by simpa using htag
              have etag : (tag != 0) = true := by simpa using htag
              have E : Hid (unusedP ⟨2, id, len, router, seq, age, sum, false, false, la, 0, lc, aa, an, ac, 0, false, 0, tag⟩ = false) := Lib.hid (by simp [unusedP, htag])
              rw [E.out]
              clear E
              go_enter Tryz.func118, Tryz.ntmps118
              go_wp2_with fail
              go_ret
              exact ⟨rfl, (Gr.refl _).alloc _⟩
          · have dfwd : (fwd == 0) = false := by simpa using hfwd
            have efwd : (fwd != 0) = true := by simpa using hfwd
            have E : Hid (unusedP ⟨2, id, len, router, seq, age, sum, false, false, la, 0, lc, aa, an, ac, 0, false, fwd, tag⟩ = false) := Lib.hid (by simp [unusedP, hfwd])
            rw [E.out]
            clear E
            go_enter Tryz.func118, Tryz.ntmps118
            go_wp2_with fail
            go_ret
            exact ⟨rfl, (Gr.refl _).alloc _⟩
        · have dcost : (cost == 0) = false := by simpa using hcost
          have ecost : (cost != 0) = true := by simpa using hcost
          have E : Hid (unusedP ⟨2, id, len, router, seq, age, sum, false, false, la, 0, lc, aa, an, ac, cost, second, fwd, tag⟩ = false) := Lib.hid (by simp [unusedP, hcost])
          rw [E.out]
          clear E
          go_enter Tryz.func118, Tryz.ntmps118
          go_wp2_with fail
          go_ret
          exact ⟨rfl, (Gr.refl _).alloc _⟩
    · have t2a : (typ == 2) = false := by simpa using t2
      have t2b : (typ != 2) = true := by simpa using t2
      cases border with
      | true =>
        have E : Hid (unusedP ⟨typ, id, len, router, seq, age, sum, true, boundary, la, ln, lc, aa, an, ac, cost, second, fwd, tag⟩ = false) := Lib.hid (by simp [unusedP, t1, t2])
        rw [E.out]
        clear E
        go_enter Tryz.func118, Tryz.ntmps118
        go_wp2_with fail
        go_ret
        exact ⟨rfl, (Gr.refl _).alloc _⟩
      | false =>
      cases boundary with
      | true =>
        have E : Hid (unusedP ⟨typ, id, len, router, seq, age, sum, false, true, la, ln, lc, aa, an, ac, cost, second, fwd, tag⟩ = false) := Lib.hid (by simp [unusedP, t1, t2])
        rw [E.out]
        clear E
        go_enter Tryz.func118, Tryz.ntmps118
        go_wp2_with fail
        go_ret
        exact ⟨rfl, (Gr.refl _).alloc _⟩
      | false =>
      by_cases hln : 0 < ln
      · have dln : decide ((ln : Int) > 0) = true := by simpa using hln
        have E : Hid (unusedP ⟨typ, id, len, router, seq, age, sum, false, false, la, ln, lc, aa, an, ac, cost, second, fwd, tag⟩ = false) := Lib.hid (by simp [unusedP, t1, t2, hln])
        rw [E.out]
        clear E
        go_enter Tryz.func118, Tryz.ntmps118
        go_wp2_with fail
        go_ret
        exact ⟨rfl, (Gr.refl _).alloc _⟩
      · obtain rfl : ln = 0 := by omega
        by_cases han : 0 < an
        · have dan : decide ((an : Int) > 0) = true := by simpa using han
          have E : Hid (unusedP ⟨typ, id, len, router, seq, age, sum, false, false, la, 0, lc, aa, an, ac, cost, second, fwd, tag⟩ = false) := Lib.hid (by simp [unusedP, t1, t2, han])
          rw [E.out]
          clear E
          go_enter Tryz.func118, Tryz.ntmps118
          go_wp2_with fail
          go_ret
          exact ⟨rfl, (Gr.refl _).alloc _⟩
        · obtain rfl : an = 0 := by omega
          by_cases t3 : typ < 3
          · have t5 : ¬ typ = 5 := by omega
            have t5a : (typ == 5) = false := by simpa using t5
            by_cases hcost : cost = 0
            · subst hcost
              cases second with
              | true =>
                have E : Hid (unusedP ⟨typ, id, len, router, seq, age, sum, false, false, la, 0, lc, aa, 0, ac, 0, true, fwd, tag⟩ = false) := Lib.hid (by simp [unusedP, t1, t2, t3, t5])
                rw [E.out]
                clear E
                go_enter Tryz.func118, Tryz.ntmps118
                go_wp2_with fail
                go_ret
                exact ⟨rfl, (Gr.refl _).alloc _⟩
              | false =>
              by_cases hfwd : fwd = 0
              · subst hfwd
                by_cases htag : tag = 0
                · subst htag
                  have E : Hid (unusedP ⟨typ, id, len, router, seq, age, sum, false, false, la, 0, lc, aa, 0, ac, 0, false, 0, 0⟩ = true) := Lib.hid (by simp [unusedP, t1, t2, t3, t5])
                  rw [E.out]
                  clear E
                  go_enter Tryz.func118, Tryz.ntmps118
                  go_wp2_with fail
                  go_ret
                  exact ⟨rfl, (Gr.refl _).alloc _⟩
                · have dtag : (tag == 0) = false := by simpa using htag
                  have etag : (tag != 0) = true := by simpa using htag
                  have E : Hid (unusedP ⟨typ, id, len, router, seq, age, sum, false, false, la, 0, lc, aa, 0, ac, 0, false, 0, tag⟩ = false) := Lib.hid (by simp [unusedP, t1, t2, t3, t5, htag])
                  rw [E.out]
                  clear E
                  go_enter Tryz.func118, Tryz.ntmps118
                  go_wp2_with fail
                  go_ret
                  exact ⟨rfl, (Gr.refl _).alloc _⟩
              · have dfwd : (fwd == 0) = false := by simpa using hfwd
                have efwd : (fwd != 0) = true := by simpa using hfwd
                have E : Hid (unusedP ⟨typ, id, len, router, seq, age, sum, false, false, la, 0, lc, aa, 0, ac, 0, false, fwd, tag⟩ = false) := Lib.hid (by simp [unusedP, t1, t2, t3, t5, hfwd])
                rw [E.out]
                clear E
                go_enter Tryz.func118, Tryz.ntmps118
                go_wp2_with fail
                go_ret
                exact ⟨rfl, (Gr.refl _).alloc _⟩
            · have dcost : (cost == 0) = false := by simpa using hcost
              have ecost : (cost != 0) = true := by simpa using hcost
              have E : Hid (unusedP ⟨typ, id, len, router, seq, age, sum, false, false, la, 0, lc, aa, 0, ac, cost, second, fwd, tag⟩ = false) := Lib.hid (by simp [unusedP, t1, t2, t3, t5, hcost])
              rw [E.out]
              clear E
              go_enter Tryz.func118, Tryz.ntmps118
              go_wp2_with fail
              go_ret
              exact ⟨rfl, (Gr.refl _).alloc _⟩
          · have t3a : decide (typ < 3) = false := by simpa using t3
            by_cases t5 : typ = 5
            · subst t5
              have E : Hid (unusedP ⟨5, id, len, router, seq, age, sum, false, false, la, 0, lc, aa, 0, ac, cost, second, fwd, tag⟩ = true) := Lib.hid (by simp [unusedP])
              rw [E.out]
              clear E
              go_enter Tryz.func118, Tryz.ntmps118
              go_wp2_with fail
              go_ret
              exact ⟨rfl, (Gr.refl _).alloc _⟩
            · have t5a : (typ == 5) = false := by simpa using t5
              cases second with
              | true =>
                have E : Hid (unusedP ⟨typ, id, len, router, seq, age, sum, false, false, la, 0, lc, aa, 0, ac, cost, true, fwd, tag⟩ = false) := Lib.hid (by simp [unusedP, t1, t2, t3, t5])
                rw [E.out]
                clear E
                go_enter Tryz.func118, Tryz.ntmps118
                go_wp2_with fail
                go_ret
                exact ⟨rfl, (Gr.refl _).alloc _⟩
              | false =>
              by_cases hfwd : fwd = 0
              · subst hfwd
                by_cases htag : tag = 0
                · subst htag
                  have E : Hid (unusedP ⟨typ, id, len, router, seq, age, sum, false, false, la, 0, lc, aa, 0, ac, cost, false, 0, 0⟩ = true) := Lib.hid (by simp [unusedP, t1, t2, t3, t5])
                  rw [E.out]
                  clear E
                  go_enter Tryz.func118, Tryz.ntmps118
                  go_wp2_with fail
                  go_ret
                  exact ⟨rfl, (Gr.refl _).alloc _⟩
                · have dtag : (tag == 0) = false := by simpa using htag
                  have etag : (tag != 0) = true := by simpa using htag
                  have E : Hid (unusedP ⟨typ, id, len, router, seq, age, sum, false, false, la, 0, lc, aa, 0, ac, cost, false, 0, tag⟩ = false) := Lib.hid (by simp [unusedP, t1, t2, t3, t5, htag])
                  rw [E.out]
                  clear E
                  go_enter Tryz.func118, Tryz.ntmps118
                  go_wp2_with fail
                  go_ret
                  exact ⟨rfl, (Gr.refl _).alloc _⟩
              · have dfwd : (fwd == 0) = false := by simpa using hfwd
                have efwd : (fwd != 0) = true := by simpa using hfwd
                have E : Hid (unusedP ⟨typ, id, len, router, seq, age, sum, false, false, la, 0, lc, aa, 0, ac, cost, false, fwd, tag⟩ = false) := Lib.hid (by simp [unusedP, t1, t2, t3, t5, hfwd])
                rw [E.out]
                clear E
                go_enter Tryz.func118, Tryz.ntmps118
                go_wp2_with fail
                go_ret
                exact ⟨rfl, (Gr.refl _).alloc _⟩

end Go.Proofs.YtogdconliofblaaGreat

namespace Go.Proofs.YtogdconliofblaaGreat
open Go.RowKit

theorem blk15 {w : World} {b : Nat} {c0 c1 c2 c3 c4 c5 c6 c7 c8 c9 c10 c11 c12 c13 c14 : Value} {t : TypeId} (h : w.heap[b]? = some (.cells #[c0, c1, c2, c3, c4, c5, c6, c7, c8, c9, c10, c11, c12, c13, c14] t (0, 0))) :
    ((w.cell? ⟨b, 0, none⟩ = some c0 ∧ w.cell? ⟨b, 1, none⟩ = some c1 ∧ w.cell? ⟨b, 2, none⟩ = some c2 ∧ w.cell? ⟨b, 3, none⟩ = some c3 ∧ w.cell? ⟨b, 4, none⟩ = some c4) ∧ (w.cell? ⟨b, 5, none⟩ = some c5 ∧ w.cell? ⟨b, 6, none⟩ = some c6 ∧ w.cell? ⟨b, 7, none⟩ = some c7 ∧ w.cell? ⟨b, 8, none⟩ = some c8 ∧ w.cell? ⟨b, 9, none⟩ = some c9) ∧ (w.cell? ⟨b, 10, none⟩ = some c10 ∧ w.cell? ⟨b, 11, none⟩ = some c11 ∧ w.cell? ⟨b, 12, none⟩ = some c12 ∧ w.cell? ⟨b, 13, none⟩ = some c13 ∧ w.cell? ⟨b, 14, none⟩ = some c14)) ∧ ∀ i, w.frozen? ⟨b, i, none⟩ = false :=
  ⟨⟨⟨blk_cell h rfl, blk_cell h rfl, blk_cell h rfl, blk_cell h rfl, blk_cell h rfl⟩, ⟨blk_cell h rfl, blk_cell h rfl, blk_cell h rfl, blk_cell h rfl, blk_cell h rfl⟩, ⟨blk_cell h rfl, blk_cell h rfl, blk_cell h rfl, blk_cell h rfl, blk_cell h rfl⟩⟩, blk_free h⟩

/-- the error of an advertisement that is no router's and no network's -/
def chkP (x : Lsa) : Int :=
  if headP x.typ x.id x.len x.router x.seq x.age x.sum ≠ 0 then headP x.typ x.id x.len x.router x.seq x.age x.sum
  else if unusedP x = false then 1 else if withinB x.cost 0 16777216 = false ∨ withinB x.tag 0 4294967295 = false then 5 else 0

set_option maxHeartbeats 4000000 in
theorem check_calls (x : Lsa) (ok : OkL x) (h1 : ¬ x.typ = 1) (h2 : ¬ x.typ = 2) (w : World) : Calls Tryz.prog 81 #[.agg (lsaE x).toArray] w (HeadPost w (chkP x)) := by
  have HC := Lib.hid (fun W => head_calls x.typ x.id x.len x.router x.seq x.age x.sum ok.id0 ok.id1 W)
  have UC := Lib.hid (fun W => unused_calls x W)
  have WC := Lib.hid (fun W => within_calls x.cost 0 16777216 W)
  have WT := Lib.hid (fun W => within_calls x.tag 0 4294967295 W)
  unfold chkP
  generalize headP x.typ x.id x.len x.router x.seq x.age x.sum = h at *
  generalize unusedP x = u at *
  generalize withinB x.cost 0 16777216 = wc at *
  generalize withinB x.tag 0 4294967295 = wt at *
  have t1 : (x.typ == 1) = false := by simpa using h1
  have t2 : (x.typ == 2) = false := by simpa using h2
  clear h1 h2 ok
  obtain ⟨typ, id, len, router, seq, age, sum, border, boundary, la, ln, lc, aa, an, ac, cost, second, fwd, tag⟩ := x
  simp only [lsaE, hdE] at *
  by_cases hh : h = 0
  · subst hh
    have hne : ¬ (0 : Int) ≠ 0 := by simp
    rw [if_neg hne]
    clear hne
    generalize hQ : (if u = false then (1 : Int) else if wc = false ∨ wt = false then 5 else 0) = q
    have HQ := Lib.hid hQ
    clear hQ
    go_enter Tryz.func81, Tryz.ntmps81
    go_wp2_with fail
    refine (HC.out _).mono ?_
    rintro e w1 ⟨rfl, G1⟩
    have b1 := (G1.b.block w.heap.size (by simp)).trans (alloc_new w _)
    obtain ⟨⟨⟨e0, e1, e2, e3, e4⟩, ⟨e5, e6, e7, e8, e9⟩, ⟨e10, e11, e12, e13, e14⟩⟩, -⟩ := blk15 b1
    have BB1 := Lib.hid b1
    have GG1 : Gr w w1 := ((Gr.refl _).alloc _).trans G1
    clear b1 G1 HC
    go_wp2_with fail
    refine (UC.out _).mono ?_
    rintro e w2 ⟨rfl, G2⟩
    have b2 := (G2.b.block w.heap.size (blk_lt BB1.out)).trans BB1.out
    have GG2 := GG1.trans G2
    clear e0 e1 e2 e3 e4 e5 e6 e7 e8 e9 e10 e11 e12 e13 e14 G2 GG1 BB1
    obtain ⟨⟨⟨e0, e1, e2, e3, e4⟩, ⟨e5, e6, e7, e8, e9⟩, ⟨e10, e11, e12, e13, e14⟩⟩, -⟩ := blk15 b2
    clear b2 UC
    cases u with
    | false =>
      go_wp2_with fail
      go_ret
      exact ⟨by rw [← HQ.out]; rfl, GG2⟩
    | true =>
      cases wc with
      | false =>
        go_wp2_with (go_at_call 121; refine (WC.out _).mono ?_; rintro e w' ⟨rfl, rfl⟩)
        go_ret
        exact ⟨by rw [← HQ.out]; rfl, GG2⟩
      | true =>
        cases wt with
        | false =>
          go_wp2_with (first | (go_at_call 121; ((with_reducible refine (WC.out _).mono ?_)); rintro e w' ⟨rfl, rfl⟩) | (go_at_call 121; ((with_reducible refine (WT.out _).mono ?_)); rintro e w' ⟨rfl, rfl⟩))
          go_ret
          exact ⟨by rw [← HQ.out]; rfl, GG2⟩
        | true =>
          go_wp2_with (first | (go_at_call 121; ((with_reducible refine (WC.out _).mono ?_)); rintro e w' ⟨rfl, rfl⟩) | (go_at_call 121; ((with_reducible refine (WT.out _).mono ?_)); rintro e w' ⟨rfl, rfl⟩))
          go_ret
          exact ⟨by rw [← HQ.out]; rfl, GG2⟩
  · have d1 : (h == 0) = false := by simpa using hh
    have d2 : (h != 0) = true := by simpa using hh
    rw [if_pos hh]
    clear hh
    go_enter Tryz.func81, Tryz.ntmps81
    go_wp2_with fail
    refine (HC.out _).mono ?_
    rintro e w1 ⟨rfl, G1⟩
    go_wp2_with fail
    go_ret
    exact ⟨rfl, ((Gr.refl _).alloc _).trans G1⟩

end Go.Proofs.YtogdconliofblaaGreat
