/- HeapBounds returns true for every input, and its arguments read afterwards as before. No condition. -/
import Derived.Test.YtnlcckajldkchaaAwk
import Derived.ProofKit
import Derived.OpenShut
namespace Go.Proofs.Ytnlcckajldkchaa
open Go.ChangeShapes Go.WideShapes Go.ChangeAt Go.RowKit

theorem getD_rep_set (n x : Nat) (b : Bool) (h : x < n) : ((List.replicate n false).set x b).getD x false = b := by
  simp [List.getD_eq_getElem?_getD, h]
theorem getD_rep_set_int (n x : Nat) (b : Int) (h : x < n) : ((List.replicate n (0 : Int)).set x b).getD x 0 = b := by
  simp [List.getD_eq_getElem?_getD, h]

theorem tin_new (n : Nat) (x : Int) : tin (tnew n) x = (decide (0 ≤ x) && decide (x < n)) := by simp [tin, tnew]

/-- what the calls come to where the item is in range -/
theorem in_range (n : Nat) (x k : Int) (h0 : 0 ≤ x) (h1 : x < n) : tin (tnew n) x = true ∧ thas (tset (tnew n) x.toNat k) x = true ∧ (tset (tnew n) x.toNat k).keys.getD x.toNat 0 = k ∧ tlen (tdrop (tset (tnew n) x.toNat k) x.toNat) = 0 := by
  have hx : x.toNat < n := by omega
  refine ⟨by simp [tin_new, h0, h1], ?_, getD_rep_set_int n _ k hx, ?_⟩
  · simp only [thas, tin, tset, tnew, List.length_set, List.length_replicate, getD_rep_set n _ true hx]
    simp [h0, h1]
  · simp only [tlen, tdrop, tset, tnew, List.set_set]
    have : (List.replicate n false).set x.toNat false = List.replicate n false := by
      apply List.ext_getElem (by simp)
      intro i h1 h2
      simp
    rw [this]; simp [List.count_replicate]

theorem out_range (n : Nat) (x : Int) (h : x < 0 ∨ (n : Int) ≤ x) : tin (tnew n) x = false ∧ thas (tnew n) x = false ∧ tlen (tnew n) = 0 := by
  have : tin (tnew n) x = false := by simp [tin_new]; omega
  exact ⟨this, by simp [thas, this], by simp [tlen, tnew, List.count_replicate]⟩

set_option maxHeartbeats 1000000 in
theorem heapBounds_in (n x k : Int) (w : World) (n0 : 0 ≤ n) (n1 : n ≤ 255) (h0 : 0 ≤ x) (h1 : x < n) : Calls Try.prog 6 #[.int .u8 n, .int .i64 x, .int .i64 k] w fun e w' => e = .returned (.bool true) ∧ Below w.heap.size w w' := by
  obtain ⟨e1, e2, e3, e4⟩ := in_range n.toNat x k h0 (by omega)
  have E1 := Lib.hid e1; have E2 := Lib.hid e2; have E3 := Lib.hid e3; have E4 := Lib.hid e4
  clear e1 e2 e3 e4
  have d1 : decide (x < n) = true := by simpa using h1
  go_enter Try.func6, Try.ntmps6
  go_wp2_with fail
  refine (new_rep n w).mono ?_
  rintro e w1 ⟨hb, pb, kb, rfl, g1, g2, g3, r, bel⟩
  rw [show clampN n = n.toNat from by unfold clampN; omega] at r
  have H1 : HT w1.heap.size hb pb kb w1 (tnew n.toNat) := HT.first r fun _ _ => rfl
  have sz := bel.size
  generalize w1.heap.size = base at H1 sz
  clear r
  go_wp2_with fail
  refine (hset H1 _ _).mono ?_
  rintro e w2 ⟨rfl, H2, f2⟩
  rw [E1.out, if_pos rfl] at H2
  rw [E1.out]
  replace bel := bel.trans (f2.below w.heap.size sz g1 g2 g3)
  clear H1 f2
  go_wp2_with fail
  refine (hkey H2 _).mono ?_
  rintro e w' ⟨rfl, rfl⟩
  rw [E2.out, if_pos rfl, E3.out]
  go_wp2_with fail
  refine (awake_rep w2).mono ?_
  rintro e w3 ⟨rfl, b3⟩
  obtain ⟨v, s, rr, R⟩ := H2
  have rr3 : Rep base hb pb kb w3 v s := rr.other b3.size fun k hk => b3.block k (by
    rcases hk with rfl | rfl | rfl | hk
    · exact blk_lt rr.top
    · exact blk_lt rr.pl
    · exact blk_lt rr.ky
    · exact rr.it.lt k hk)
  have H3 : HT base hb pb kb w3 _ := ⟨v, s, rr3, R⟩
  replace bel := bel.trans (b3.mono (by have := bel.size; omega))
  clear rr rr3 R b3
  go_wp2_with fail
  refine (hdrop H3 _).mono ?_
  rintro e w4 ⟨rfl, H4, f4⟩
  rw [E2.out, if_pos rfl] at H4
  rw [E2.out]
  replace bel := bel.trans (f4.below w.heap.size sz g1 g2 g3)
  clear H3 f4
  go_wp2_with fail
  refine (hlen H4).mono ?_
  rintro e w' ⟨rfl, rfl⟩
  rw [E4.out]
  go_wp2_with fail
  go_ret
  exact ⟨rfl, bel⟩

set_option maxHeartbeats 1000000 in
theorem heapBounds_out (n x k : Int) (w : World) (n0 : 0 ≤ n) (n1 : n ≤ 255) (h : x < 0 ∨ n ≤ x) : Calls Try.prog 6 #[.int .u8 n, .int .i64 x, .int .i64 k] w fun e w' => e = .returned (.bool true) ∧ Below w.heap.size w w' := by
  obtain ⟨e1, e2, e3⟩ := out_range n.toNat x (by omega)
  have E1 := Lib.hid e1; have E2 := Lib.hid e2; have E3 := Lib.hid e3
  clear e1 e2 e3
  obtain ⟨is, his⟩ : ∃ b : Bool, b = (decide (0 ≤ x) && decide (x < n)) := ⟨_, rfl⟩
  have is0 : is = false := by rw [his]; simp; omega
  have dd : (decide (0 ≤ x) && decide (x < n)) = false := by rw [← his]; exact is0
  rcases h with h | h
  all_goals
    first | (have d0 : decide (0 ≤ x) = false := by simp; omega) | skip
    clear dd is0 his is
    go_enter Try.func6, Try.ntmps6
    go_wp2_with fail
    refine (new_rep n w).mono ?_
    rintro e w1 ⟨hb, pb, kb, rfl, g1, g2, g3, r, bel⟩
    rw [show clampN n = n.toNat from by unfold clampN; omega] at r
    have H1 : HT w1.heap.size hb pb kb w1 (tnew n.toNat) := HT.first r fun _ _ => rfl
    have sz := bel.size
    generalize w1.heap.size = base at H1 sz
    clear r
    go_wp2_with fail
    refine (hset H1 _ _).mono ?_
    rintro e w2 ⟨rfl, H2, f2⟩
    rw [E1.out] at H2
    replace H2 : HT base hb pb kb w2 (tnew n.toNat) := H2
    rw [E1.out]
    replace bel := bel.trans (f2.below w.heap.size sz g1 g2 g3)
    clear H1 f2
    go_wp2_with fail
    refine (hkey H2 _).mono ?_
    rintro e w' ⟨rfl, rfl⟩
    rw [E2.out, if_neg (by simp)]
    go_wp2_with fail
    refine (awake_rep w2).mono ?_
    rintro e w3 ⟨rfl, b3⟩
    obtain ⟨v, s, rr, R⟩ := H2
    have rr3 : Rep base hb pb kb w3 v s := rr.other b3.size fun k hk => b3.block k (by
      rcases hk with rfl | rfl | rfl | hk
      · exact blk_lt rr.top
      · exact blk_lt rr.pl
      · exact blk_lt rr.ky
      · exact rr.it.lt k hk)
    have H3 : HT base hb pb kb w3 _ := ⟨v, s, rr3, R⟩
    replace bel := bel.trans (b3.mono (by have := bel.size; omega))
    clear rr rr3 R b3
    go_wp2_with fail
    refine (hdrop H3 _).mono ?_
    rintro e w4 ⟨rfl, H4, f4⟩
    rw [E2.out] at H4
    replace H4 : HT base hb pb kb w4 (tnew n.toNat) := H4
    rw [E2.out]
    replace bel := bel.trans (f4.below w.heap.size sz g1 g2 g3)
    clear H3 f4
    go_wp2_with fail
    refine (hlen H4).mono ?_
    rintro e w' ⟨rfl, rfl⟩
    rw [E3.out]
    go_wp2_with fail
    go_ret
    exact ⟨rfl, bel⟩

theorem heapBounds_walk (n x k : Int) (hn : (Lit.int .u8 n).wf = true) (w : World) : Calls Try.prog 6 #[.int .u8 n, .int .i64 x, .int .i64 k] w fun e w' => e = .returned (.bool true) ∧ Below w.heap.size w w' := by
  simp only [Lit.wf, Bool.and_eq_true, decide_eq_true_eq, show IntKind.u8.min = 0 from rfl, show IntKind.u8.max = 255 from rfl] at hn
  by_cases h : 0 ≤ x ∧ x < n
  · exact heapBounds_in n x k w (by omega) (by omega) h.1 h.2
  · exact heapBounds_out n x k w (by omega) (by omega) (by omega)

theorem own6 : ownKnob Try.prog.godebug = none := by kernel_rfl

set_option maxRecDepth 100000 in
theorem heapBounds_lifted (os : Os) (started : os.Started) (H : Type) (enc : TypeId × Value → H) :
    ReturnsInHanded {} Try.checked os 6 .any (Rows.heapBoundsSpec.pre6 enc Try.prog Try.f6 Rows.heapBoundsRow.domain false) (Rows.heapBoundsSpec.post enc Try.prog Try.f6 false true false false) := by
  refine returnsInHanded_of_change (C := Try.checked) own6 started (by kernel_rfl) Try.func6
    (ChangeSpec.witness6 (enc := enc) (C := Try.checked) false ⟨#[], #[.int .u8 0, .int .i64 0, .int .i64 0], []⟩ 8 (by kernel_rfl) (by kernel_rfl) (by kernel_rfl) (by kernel_rfl)) ?_
  intro W base args ds gs before hval0 hW hcnd _
  have hval : ∀ (j : Nat) t v, Try.f6.params[j]? = some t → args[j]? = some v → Value.okWide Try.prog W .any base t v := hval0
  have hW' := hW
  obtain ⟨p, q, hA0, hV, rfl, hfz, hnd⟩ := hW
  have hA : DataW.TrodAll enc Try.prog W 0 (fun _ => true) true Try.f6.params.toList args.toList ds p := hA0
  rw [Try.params6] at hA hval
  obtain ⟨v0, vs0, d0, ds0, p0, q0, hargs, rfl, rfl, h0, r0⟩ := trodAll_cons hA
  obtain ⟨v1, vs1, d1, ds1, p1, q1, rfl, rfl, rfl, h1, r1⟩ := trodAll_cons r0
  obtain ⟨v2, vs2, d2, ds2, p2, q2, rfl, rfl, rfl, h2, r2⟩ := trodAll_cons r1
  obtain ⟨rfl, rfl, rfl⟩ := trodAll_nil r2
  obtain rfl : args = #[v0, v1, v2] := by cases args; simp_all
  obtain ⟨rfl, rfl⟩ := trodVars_none hV
  obtain ⟨a0, rfl, rfl, rfl, w0⟩ := open_int Try.underlying5 (hval 0 5 v0 rfl rfl) h0
  obtain ⟨a1, rfl, rfl, rfl, w1⟩ := open_int Try.underlying3 (hval 1 3 v1 rfl rfl) h1
  obtain ⟨a2, rfl, rfl, rfl, w2⟩ := open_int Try.underlying3 (hval 2 3 v2 rfl rfl) h2
  clear hA0 hval0
  simp only [List.append_nil] at hW'
  refine (heapBounds_walk a0 a1 a2 w0 W).mono fun e W' ⟨he, hb⟩ => ?_
  subst he
  exact ⟨_, rfl, ⟨_, _, _, [], _, [], hW', (trodAll_cons_mk (shut_bool Try.underlying4 _) trodAll_mk0), (trodAll_cons_mk (shut_int Try.underlying5 w0) (trodAll_cons_mk (shut_int Try.underlying3 w1) (trodAll_cons_mk (shut_int Try.underlying3 w2) trodAll_mk0))), rfl, hb.frame _, fun h => by cases h⟩⟩

theorem heapBounds_holds : Rows.HeapBoundsSaid :=
  OpenClaim.holds_of_wide 6 Try.f6 rfl rfl rfl rfl rfl rfl rfl ⟨rfl, rfl, rfl, rfl, rfl⟩ rfl rfl rfl rfl rfl (by kernel_rfl) Try.func6 (by kernel_rfl)
    (of_decide_eq_true (by kernel_rfl)) (by unfold Func.isWrapper; first | (rw [if_pos (by decide +kernel)]; kernel_rfl) | (rw [if_neg (by decide +kernel)]; exact ⟨rfl, rfl⟩))
    (fun os started H enc _ => heapBounds_lifted os started H enc)
#print axioms heapBounds_holds


end Go.Proofs.Ytnlcckajldkchaa
