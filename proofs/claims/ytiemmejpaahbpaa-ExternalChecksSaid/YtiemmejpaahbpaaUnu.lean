/-
  routingref23.unused and Check, of summaries, boundaries and external advertisements.
-/
import Derived.Test.YtiemmejpaahbpaaHed
namespace Go.Proofs.Ytiemmejpaahbpaa
open Go.RowKit

/-- are the fields zero that do not belong to the type? -/
def unusedP (x : Lsa) : Bool :=
  !(!decide (x.typ = 1) && (x.border || x.boundary || decide (0 < x.ln))) && !(!decide (x.typ = 2) && decide (0 < x.an)) && !(decide (x.typ < 3) && !decide (x.cost = 0)) &&
    (decide (x.typ = 5) || (!x.second && decide (x.fwd = 0) && decide (x.tag = 0)))

set_option maxHeartbeats 4000000 in
theorem unused_calls (x : Lsa) (w : World) : Calls Try.prog 46 #[.agg (lsaE x).toArray] w fun e w' => e = .returned (.bool (unusedP x)) ∧ Gr w w' := by
  obtain ⟨typ, id, len, router, seq, age, sum, border, boundary, la, ln, lc, aa, an, ac, cost, second, fwd, tag⟩ := x
  unfold lsaE
  simp only
  by_cases t1 : typ = 1
  · subst t1
    by_cases han : 0 < an
    · have dan : decide ((an : Int) > 0) = true := by simpa using han
      have E : Hid (unusedP ⟨1, id, len, router, seq, age, sum, border, boundary, la, ln, lc, aa, an, ac, cost, second, fwd, tag⟩ = false) := Lib.hid (by simp [unusedP, han])
      rw [E.out]
      clear E
      go_enter Try.func46, Try.ntmps46
      go_wp2_with fail
      go_ret
      exact ⟨rfl, (Gr.refl _).alloc _⟩
    · obtain rfl : an = 0 := by omega
      by_cases hcost : cost = 0
      · subst hcost
        cases second with
        | true =>
          have E : Hid (unusedP ⟨1, id, len, router, seq, age, sum, border, boundary, la, ln, lc, aa, 0, ac, 0, true, fwd, tag⟩ = false) := Lib.hid (by simp [unusedP])
          rw [E.out]
          clear E
          go_enter Try.func46, Try.ntmps46
          go_wp2_with fail
          go_ret
          exact ⟨rfl, (Gr.refl _).alloc _⟩
        | false =>
        by_cases hfwd : fwd = 0
        · subst hfwd
          by_cases htag : tag = 0
          · subst htag
            have E : Hid (unusedP ⟨1, id, len, router, seq, age, sum, border, boundary, la, ln, lc, aa, 0, ac, 0, false, 0, 0⟩ = true) := Lib.hid (by simp [unusedP])
            rw [E.out]
            clear E
            go_enter Try.func46, Try.ntmps46
            go_wp2_with fail
            go_ret
            exact ⟨rfl, (Gr.refl _).alloc _⟩
          · have dtag : (tag == 0) = false := by simpa using htag
            have etag : (tag != 0) = true := by simpa using htag
            have E : Hid (unusedP ⟨1, id, len, router, seq, age, sum, border, boundary, la, ln, lc, aa, 0, ac, 0, false, 0, tag⟩ = false) := Lib.hid (by simp [unusedP, htag])
            rw [E.out]
            clear E
            go_enter Try.func46, Try.ntmps46
            go_wp2_with fail
            go_ret
            exact ⟨rfl, (Gr.refl _).alloc _⟩
        · have dfwd : (fwd == 0) = false := by simpa using hfwd
          have efwd : (fwd != 0) = true := by simpa using hfwd
          have E : Hid (unusedP ⟨1, id, len, router, seq, age, sum, border, boundary, la, ln, lc, aa, 0, ac, 0, false, fwd, tag⟩ = false) := Lib.hid (by simp [unusedP, hfwd])
          rw [E.out]
          clear E
          go_enter Try.func46, Try.ntmps46
          go_wp2_with fail
          go_ret
          exact ⟨rfl, (Gr.refl _).alloc _⟩
      · have dcost : (cost == 0) = false := by simpa using hcost
        have ecost : (cost != 0) = true := by simpa using hcost
        have E : Hid (unusedP ⟨1, id, len, router, seq, age, sum, border, boundary, la, ln, lc, aa, 0, ac, cost, second, fwd, tag⟩ = false) := Lib.hid (by simp [unusedP, hcost])
        rw [E.out]
        clear E
        go_enter Try.func46, Try.ntmps46
        go_wp2_with fail
        go_ret
        exact ⟨rfl, (Gr.refl _).alloc _⟩
  · have t1a : (typ == 1) = false := by simpa using t1
    have t1b : (typ != 1) = true := by simpa using t1
    by_cases t2 : typ = 2
    · subst t2
      cases border with
      | true =>
        have E : Hid (unusedP ⟨2, id, len, router, seq, age, sum, true, boundary, la, ln, lc, aa, an, ac, cost, second, fwd, tag⟩ = false) := Lib.hid (by simp [unusedP])
        rw [E.out]
        clear E
        go_enter Try.func46, Try.ntmps46
        go_wp2_with fail
        go_ret
        exact ⟨rfl, (Gr.refl _).alloc _⟩
      | false =>
      cases boundary with
      | true =>
        have E : Hid (unusedP ⟨2, id, len, router, seq, age, sum, false, true, la, ln, lc, aa, an, ac, cost, second, fwd, tag⟩ = false) := Lib.hid (by simp [unusedP])
        rw [E.out]
        clear E
        go_enter Try.func46, Try.ntmps46
        go_wp2_with fail
        go_ret
        exact ⟨rfl, (Gr.refl _).alloc _⟩
      | false =>
      by_cases hln : 0 < ln
      · have dln : decide ((ln : Int) > 0) = true := by simpa using hln
        have E : Hid (unusedP ⟨2, id, len, router, seq, age, sum, false, false, la, ln, lc, aa, an, ac, cost, second, fwd, tag⟩ = false) := Lib.hid (by simp [unusedP, hln])
        rw [E.out]
        clear E
        go_enter Try.func46, Try.ntmps46
        go_wp2_with fail
        go_ret
        exact ⟨rfl, (Gr.refl _).alloc _⟩
      · obtain rfl : ln = 0 := by omega
        by_cases hcost : cost = 0
        · subst hcost
          cases second with
          | true =>
            have E : Hid (unusedP ⟨2, id, len, router, seq, age, sum, false, false, la, 0, lc, aa, an, ac, 0, true, fwd, tag⟩ = false) := Lib.hid (by simp [unusedP])
            rw [E.out]
            clear E
            go_enter Try.func46, Try.ntmps46
            go_wp2_with fail
            go_ret
            exact ⟨rfl, (Gr.refl _).alloc _⟩
          | false =>
          by_cases hfwd : fwd = 0
          · subst hfwd
            by_cases htag : tag = 0
            · subst htag
              have E : Hid (unusedP ⟨2, id, len, router, seq, age, sum, false, false, la, 0, lc, aa, an, ac, 0, false, 0, 0⟩ = true) := Lib.hid (by simp [unusedP])
              rw [E.out]
              clear E
              go_enter Try.func46, Try.ntmps46
              go_wp2_with fail
              go_ret
              exact ⟨rfl, (Gr.refl _).alloc _⟩
            · have dtag : (tag == 0) = false := by simpa using htag
              have etag : (tag != 0) = true := by simpa using htag
              have E : Hid (unusedP ⟨2, id, len, router, seq, age, sum, false, false, la, 0, lc, aa, an, ac, 0, false, 0, tag⟩ = false) := Lib.hid (by simp [unusedP, htag])
              rw [E.out]
              clear E
              go_enter Try.func46, Try.ntmps46
              go_wp2_with fail
              go_ret
              exact ⟨rfl, (Gr.refl _).alloc _⟩
          · have dfwd : (fwd == 0) = false := by simpa using hfwd
            have efwd : (fwd != 0) = true := by simpa using hfwd
            have E : Hid (unusedP ⟨2, id, len, router, seq, age, sum, false, false, la, 0, lc, aa, an, ac, 0, false, fwd, tag⟩ = false) := Lib.hid (by simp [unusedP, hfwd])
            rw [E.out]
            clear E
            go_enter Try.func46, Try.ntmps46
            go_wp2_with fail
            go_ret
            exact ⟨rfl, (Gr.refl _).alloc _⟩
        · have dcost : (cost == 0) = false := by simpa using hcost
          have ecost : (cost != 0) = true := by simpa using hcost
          have E : Hid (unusedP ⟨2, id, len, router, seq, age, sum, false, false, la, 0, lc, aa, an, ac, cost, second, fwd, tag⟩ = false) := Lib.hid (by simp [unusedP, hcost])
          rw [E.out]
          clear E
          go_enter Try.func46, Try.ntmps46
          go_wp2_with fail
          go_ret
          exact ⟨rfl, (Gr.refl _).alloc _⟩
    · have t2a : (typ == 2) = false := by simpa using t2
      have t2b : (typ != 2) = true := by simpa using t2
      cases border with
      | true =>
        have E : Hid (unusedP ⟨typ, id, len, router, seq, age, sum, true, boundary, la, ln, lc, aa, an, ac, cost, second, fwd, tag⟩ = false) := Lib.hid (by simp [unusedP, t1, t2])
        rw [E.out]
        clear E
        go_enter Try.func46, Try.ntmps46
        go_wp2_with fail
        go_ret
        exact ⟨rfl, (Gr.refl _).alloc _⟩
      | false =>
      cases boundary with
      | true =>
        have E : Hid (unusedP ⟨typ, id, len, router, seq, age, sum, false, true, la, ln, lc, aa, an, ac, cost, second, fwd, tag⟩ = false) := Lib.hid (by simp [unusedP, t1, t2])
        rw [E.out]
        clear E
        go_enter Try.func46, Try.ntmps46
        go_wp2_with fail
        go_ret
        exact ⟨rfl, (Gr.refl _).alloc _⟩
      | false =>
      by_cases hln : 0 < ln
      · have dln : decide ((ln : Int) > 0) = true := by simpa using hln
        have E : Hid (unusedP ⟨typ, id, len, router, seq, age, sum, false, false, la, ln, lc, aa, an, ac, cost, second, fwd, tag⟩ = false) := Lib.hid (by simp [unusedP, t1, t2, hln])
        rw [E.out]
        clear E
        go_enter Try.func46, Try.ntmps46
        go_wp2_with fail
        go_ret
        exact ⟨rfl, (Gr.refl _).alloc _⟩
      · obtain rfl : ln = 0 := by omega
        by_cases han : 0 < an
        · have dan : decide ((an : Int) > 0) = true := by simpa using han
          have E : Hid (unusedP ⟨typ, id, len, router, seq, age, sum, false, false, la, 0, lc, aa, an, ac, cost, second, fwd, tag⟩ = false) := Lib.hid (by simp [unusedP, t1, t2, han])
          rw [E.out]
          clear E
          go_enter Try.func46, Try.ntmps46
          go_wp2_with fail
          go_ret
          exact ⟨rfl, (Gr.refl _).alloc _⟩
        · obtain rfl : an = 0 := by omega
          by_cases t3 : typ < 3
          · have t5 : ¬ typ = 5 := by omega
            have t5a : (typ == 5) = false := by simpa using t5
            by_cases hcost : cost = 0
            · subst hcost
              cases second with
              | true =>
                have E : Hid (unusedP ⟨typ, id, len, router, seq, age, sum, false, false, la, 0, lc, aa, 0, ac, 0, true, fwd, tag⟩ = false) := Lib.hid (by simp [unusedP, t1, t2, t3, t5])
                rw [E.out]
                clear E
                go_enter Try.func46, Try.ntmps46
                go_wp2_with fail
                go_ret
                exact ⟨rfl, (Gr.refl _).alloc _⟩
              | false =>
              by_cases hfwd : fwd = 0
              · subst hfwd
                by_cases htag : tag = 0
                · subst htag
                  have E : Hid (unusedP ⟨typ, id, len, router, seq, age, sum, false, false, la, 0, lc, aa, 0, ac, 0, false, 0, 0⟩ = true) := Lib.hid (by simp [unusedP, t1, t2, t3, t5])
                  rw [E.out]
                  clear E
                  go_enter Try.func46, Try.ntmps46
                  go_wp2_with fail
                  go_ret
                  exact ⟨rfl, (Gr.refl _).alloc _⟩
                · have dtag : (tag == 0) = false := by simpa using htag
                  have etag : (tag != 0) = true := by simpa using htag
                  have E : Hid (unusedP ⟨typ, id, len, router, seq, age, sum, false, false, la, 0, lc, aa, 0, ac, 0, false, 0, tag⟩ = false) := Lib.hid (by simp [unusedP, t1, t2, t3, t5, htag])
                  rw [E.out]
                  clear E
                  go_enter Try.func46, Try.ntmps46
                  go_wp2_with fail
                  go_ret
                  exact ⟨rfl, (Gr.refl _).alloc _⟩
              · have dfwd : (fwd == 0) = false := by simpa using hfwd
                have efwd : (fwd != 0) = true := by simpa using hfwd
                have E : Hid (unusedP ⟨typ, id, len, router, seq, age, sum, false, false, la, 0, lc, aa, 0, ac, 0, false, fwd, tag⟩ = false) := Lib.hid (by simp [unusedP, t1, t2, t3, t5, hfwd])
                rw [E.out]
                clear E
                go_enter Try.func46, Try.ntmps46
                go_wp2_with fail
                go_ret
                exact ⟨rfl, (Gr.refl _).alloc _⟩
            · have dcost : (cost == 0) = false := by simpa using hcost
              have ecost : (cost != 0) = true := by simpa using hcost
              have E : Hid (unusedP ⟨typ, id, len, router, seq, age, sum, false, false, la, 0, lc, aa, 0, ac, cost, second, fwd, tag⟩ = false) := Lib.hid (by simp [unusedP, t1, t2, t3, t5, hcost])
              rw [E.out]
              clear E
              go_enter Try.func46, Try.ntmps46
              go_wp2_with fail
              go_ret
              exact ⟨rfl, (Gr.refl _).alloc _⟩
          · have t3a : decide (typ < 3) = false := by simpa using t3
            by_cases t5 : typ = 5
            · subst t5
              have E : Hid (unusedP ⟨5, id, len, router, seq, age, sum, false, false, la, 0, lc, aa, 0, ac, cost, second, fwd, tag⟩ = true) := Lib.hid (by simp [unusedP])
              rw [E.out]
              clear E
              go_enter Try.func46, Try.ntmps46
              go_wp2_with fail
              go_ret
              exact ⟨rfl, (Gr.refl _).alloc _⟩
            · have t5a : (typ == 5) = false := by simpa using t5
              cases second with
              | true =>
                have E : Hid (unusedP ⟨typ, id, len, router, seq, age, sum, false, false, la, 0, lc, aa, 0, ac, cost, true, fwd, tag⟩ = false) := Lib.hid (by simp [unusedP, t1, t2, t3, t5])
                rw [E.out]
                clear E
                go_enter Try.func46, Try.ntmps46
                go_wp2_with fail
                go_ret
                exact ⟨rfl, (Gr.refl _).alloc _⟩
              | false =>
              by_cases hfwd : fwd = 0
              · subst hfwd
                by_cases htag : tag = 0
                · subst htag
                  have E : Hid (unusedP ⟨typ, id, len, router, seq, age, sum, false, false, la, 0, lc, aa, 0, ac, cost, false, 0, 0⟩ = true) := Lib.hid (by simp [unusedP, t1, t2, t3, t5])
                  rw [E.out]
                  clear E
                  go_enter Try.func46, Try.ntmps46
                  go_wp2_with fail
                  go_ret
                  exact ⟨rfl, (Gr.refl _).alloc _⟩
                · have dtag : (tag == 0) = false := by simpa using htag
                  have etag : (tag != 0) = true := by simpa using htag
                  have E : Hid (unusedP ⟨typ, id, len, router, seq, age, sum, false, false, la, 0, lc, aa, 0, ac, cost, false, 0, tag⟩ = false) := Lib.hid (by simp [unusedP, t1, t2, t3, t5, htag])
                  rw [E.out]
                  clear E
                  go_enter Try.func46, Try.ntmps46
                  go_wp2_with fail
                  go_ret
                  exact ⟨rfl, (Gr.refl _).alloc _⟩
              · have dfwd : (fwd == 0) = false := by simpa using hfwd
                have efwd : (fwd != 0) = true := by simpa using hfwd
                have E : Hid (unusedP ⟨typ, id, len, router, seq, age, sum, false, false, la, 0, lc, aa, 0, ac, cost, false, fwd, tag⟩ = false) := Lib.hid (by simp [unusedP, t1, t2, t3, t5, hfwd])
                rw [E.out]
                clear E
                go_enter Try.func46, Try.ntmps46
                go_wp2_with fail
                go_ret
                exact ⟨rfl, (Gr.refl _).alloc _⟩

end Go.Proofs.Ytiemmejpaahbpaa
